/- Facts of the program's types, printed by wip/tools/TG.lean. -/
import Derived.Test.YtlndidjdeneolaaA15
import Derived.Test.YtlndidjdeneolaaProg
import Derived.KernelRfl
set_option linter.unusedVariables false
namespace Go.Proofs.Ytlndidjdeneolaa.Abs
open Go
theorem ag0 : isAggT Try.prog 0 = false := by kernel_rfl
theorem sz0 : szT Try.prog 0 = some 1 := by kernel_rfl
theorem kn0 : knownT Try.prog 0 = true := by kernel_rfl
theorem ag1 : isAggT Try.prog 1 = false := by kernel_rfl
theorem sz1 : szT Try.prog 1 = some 1 := by kernel_rfl
theorem kn1 : knownT Try.prog 1 = true := by kernel_rfl
theorem zt1 : zeroT Try.prog 1 = some (.nilFunc) := by kernel_rfl
theorem ag2 : isAggT Try.prog 2 = false := by kernel_rfl
theorem sz2 : szT Try.prog 2 = some 1 := by kernel_rfl
theorem kn2 : knownT Try.prog 2 = true := by kernel_rfl
theorem zt2 : zeroT Try.prog 2 = some (.int .i64 0) := by kernel_rfl
theorem ag3 : isAggT Try.prog 3 = false := by kernel_rfl
theorem sz3 : szT Try.prog 3 = some 1 := by kernel_rfl
theorem kn3 : knownT Try.prog 3 = true := by kernel_rfl
theorem zt3 : zeroT Try.prog 3 = some (.int .i64 0) := by kernel_rfl
theorem ag4 : isAggT Try.prog 4 = false := by kernel_rfl
theorem sz4 : szT Try.prog 4 = some 1 := by kernel_rfl
theorem kn4 : knownT Try.prog 4 = true := by kernel_rfl
theorem zt4 : zeroT Try.prog 4 = some (.bool false) := by kernel_rfl
theorem ag5 : isAggT Try.prog 5 = false := by kernel_rfl
theorem sz5 : szT Try.prog 5 = some 1 := by kernel_rfl
theorem kn5 : knownT Try.prog 5 = true := by kernel_rfl
theorem zt5 : zeroT Try.prog 5 = some (.int .u8 0) := by kernel_rfl
theorem ag6 : isAggT Try.prog 6 = false := by kernel_rfl
theorem sz6 : szT Try.prog 6 = some 1 := by kernel_rfl
theorem kn6 : knownT Try.prog 6 = true := by kernel_rfl
theorem zt6 : zeroT Try.prog 6 = some (.int .u8 0) := by kernel_rfl
theorem ag7 : isAggT Try.prog 7 = true := by kernel_rfl
theorem sz7 : szT Try.prog 7 = some 4 := by kernel_rfl
theorem zt7 : zeroT Try.prog 7 = some (.agg #[.int .i64 0, .int .i64 0, .bool false, .int .u8 0]) := by kernel_rfl
theorem sd7 : sized Try.prog 7 = true := by kernel_rfl
theorem pl7_0 : place Try.prog 7 0 = some (0, 1) := by kernel_rfl
theorem ft7_0 : ftype Try.prog 7 0 = some 2 := by kernel_rfl
theorem pl7_1 : place Try.prog 7 1 = some (1, 1) := by kernel_rfl
theorem ft7_1 : ftype Try.prog 7 1 = some 3 := by kernel_rfl
theorem pl7_2 : place Try.prog 7 2 = some (2, 1) := by kernel_rfl
theorem ft7_2 : ftype Try.prog 7 2 = some 4 := by kernel_rfl
theorem pl7_3 : place Try.prog 7 3 = some (3, 1) := by kernel_rfl
theorem ft7_3 : ftype Try.prog 7 3 = some 6 := by kernel_rfl
theorem ag8 : isAggT Try.prog 8 = true := by kernel_rfl
theorem sz8 : szT Try.prog 8 = some 4 := by kernel_rfl
theorem zt8 : zeroT Try.prog 8 = some (.agg #[.int .i64 0, .int .i64 0, .bool false, .int .u8 0]) := by kernel_rfl
theorem sd8 : sized Try.prog 8 = true := by kernel_rfl
theorem pl8_0 : place Try.prog 8 0 = some (0, 1) := by kernel_rfl
theorem ft8_0 : ftype Try.prog 8 0 = some 2 := by kernel_rfl
theorem pl8_1 : place Try.prog 8 1 = some (1, 1) := by kernel_rfl
theorem ft8_1 : ftype Try.prog 8 1 = some 3 := by kernel_rfl
theorem pl8_2 : place Try.prog 8 2 = some (2, 1) := by kernel_rfl
theorem ft8_2 : ftype Try.prog 8 2 = some 4 := by kernel_rfl
theorem pl8_3 : place Try.prog 8 3 = some (3, 1) := by kernel_rfl
theorem ft8_3 : ftype Try.prog 8 3 = some 6 := by kernel_rfl
theorem ag9 : isAggT Try.prog 9 = false := by kernel_rfl
theorem sz9 : szT Try.prog 9 = some 1 := by kernel_rfl
theorem kn9 : knownT Try.prog 9 = true := by kernel_rfl
theorem zt9 : zeroT Try.prog 9 = some (.string .empty) := by kernel_rfl
theorem ag10 : isAggT Try.prog 10 = false := by kernel_rfl
theorem sz10 : szT Try.prog 10 = some 1 := by kernel_rfl
theorem kn10 : knownT Try.prog 10 = true := by kernel_rfl
theorem zt10 : zeroT Try.prog 10 = some (.string .empty) := by kernel_rfl
theorem ag11 : isAggT Try.prog 11 = false := by kernel_rfl
theorem sz11 : szT Try.prog 11 = some 1 := by kernel_rfl
theorem kn11 : knownT Try.prog 11 = true := by kernel_rfl
theorem zt11 : zeroT Try.prog 11 = some (.string .empty) := by kernel_rfl
theorem ag12 : isAggT Try.prog 12 = false := by kernel_rfl
theorem sz12 : szT Try.prog 12 = some 1 := by kernel_rfl
theorem kn12 : knownT Try.prog 12 = true := by kernel_rfl
theorem zt12 : zeroT Try.prog 12 = some (.int .u64 0) := by kernel_rfl
theorem ag13 : isAggT Try.prog 13 = true := by kernel_rfl
theorem sz13 : szT Try.prog 13 = some 2 := by kernel_rfl
theorem zt13 : zeroT Try.prog 13 = some (.agg #[.string .empty, .int .u64 0]) := by kernel_rfl
theorem sd13 : sized Try.prog 13 = true := by kernel_rfl
theorem pl13_0 : place Try.prog 13 0 = some (0, 1) := by kernel_rfl
theorem ft13_0 : ftype Try.prog 13 0 = some 9 := by kernel_rfl
theorem pl13_1 : place Try.prog 13 1 = some (1, 1) := by kernel_rfl
theorem ft13_1 : ftype Try.prog 13 1 = some 12 := by kernel_rfl
theorem ag14 : isAggT Try.prog 14 = true := by kernel_rfl
theorem sz14 : szT Try.prog 14 = some 2 := by kernel_rfl
theorem zt14 : zeroT Try.prog 14 = some (.agg #[.string .empty, .int .u64 0]) := by kernel_rfl
theorem sd14 : sized Try.prog 14 = true := by kernel_rfl
theorem pl14_0 : place Try.prog 14 0 = some (0, 1) := by kernel_rfl
theorem ft14_0 : ftype Try.prog 14 0 = some 9 := by kernel_rfl
theorem pl14_1 : place Try.prog 14 1 = some (1, 1) := by kernel_rfl
theorem ft14_1 : ftype Try.prog 14 1 = some 12 := by kernel_rfl
theorem ag15 : isAggT Try.prog 15 = false := by kernel_rfl
theorem sz15 : szT Try.prog 15 = some 1 := by kernel_rfl
theorem kn15 : knownT Try.prog 15 = true := by kernel_rfl
theorem zt15 : zeroT Try.prog 15 = some (.pointer none) := by kernel_rfl
theorem ag16 : isAggT Try.prog 16 = false := by kernel_rfl
theorem sz16 : szT Try.prog 16 = some 1 := by kernel_rfl
theorem kn16 : knownT Try.prog 16 = true := by kernel_rfl
theorem zt16 : zeroT Try.prog 16 = some (.pointer none) := by kernel_rfl
theorem ag17 : isAggT Try.prog 17 = false := by kernel_rfl
theorem sz17 : szT Try.prog 17 = some 1 := by kernel_rfl
theorem kn17 : knownT Try.prog 17 = true := by kernel_rfl
theorem zt17 : zeroT Try.prog 17 = some (.pointer none) := by kernel_rfl
theorem ag18 : isAggT Try.prog 18 = true := by kernel_rfl
theorem sz18 : szT Try.prog 18 = some 1 := by kernel_rfl
theorem zt18 : zeroT Try.prog 18 = some (.agg #[.pointer none]) := by kernel_rfl
theorem sd18 : sized Try.prog 18 = true := by kernel_rfl
theorem pl18_0 : place Try.prog 18 0 = some (0, 1) := by kernel_rfl
theorem ft18_0 : ftype Try.prog 18 0 = some 17 := by kernel_rfl
theorem ag19 : isAggT Try.prog 19 = true := by kernel_rfl
theorem sz19 : szT Try.prog 19 = some 1 := by kernel_rfl
theorem zt19 : zeroT Try.prog 19 = some (.agg #[.pointer none]) := by kernel_rfl
theorem sd19 : sized Try.prog 19 = true := by kernel_rfl
theorem pl19_0 : place Try.prog 19 0 = some (0, 1) := by kernel_rfl
theorem ft19_0 : ftype Try.prog 19 0 = some 17 := by kernel_rfl
theorem ag20 : isAggT Try.prog 20 = false := by kernel_rfl
theorem sz20 : szT Try.prog 20 = some 1 := by kernel_rfl
theorem kn20 : knownT Try.prog 20 = true := by kernel_rfl
theorem zt20 : zeroT Try.prog 20 = some (.nilIface) := by kernel_rfl
theorem ag21 : isAggT Try.prog 21 = false := by kernel_rfl
theorem sz21 : szT Try.prog 21 = some 1 := by kernel_rfl
theorem kn21 : knownT Try.prog 21 = true := by kernel_rfl
theorem zt21 : zeroT Try.prog 21 = some (.int .i32 0) := by kernel_rfl
theorem ag22 : isAggT Try.prog 22 = false := by kernel_rfl
theorem sz22 : szT Try.prog 22 = some 1 := by kernel_rfl
theorem kn22 : knownT Try.prog 22 = true := by kernel_rfl
theorem zt22 : zeroT Try.prog 22 = some (.slice none 0 0) := by kernel_rfl
theorem el22 : elemT Try.prog 22 = some 38 := by kernel_rfl
theorem if22 : infoT Try.prog 38 = some (12, 104) := by kernel_rfl
theorem tk22 : takesT Try.prog 22 = true := by kernel_rfl
theorem zu22 : zeroT Try.prog 38 = some (.agg #[.bool false, .bool false, .bool false, .int .i64 0, .int .i64 0, .int .i64 0, .string .empty, .int .i64 0, .int .i64 0, .int .i64 0, .int .i64 0, .string .empty]) := by kernel_rfl
theorem ag23 : isAggT Try.prog 23 = false := by kernel_rfl
theorem sz23 : szT Try.prog 23 = some 1 := by kernel_rfl
theorem kn23 : knownT Try.prog 23 = true := by kernel_rfl
theorem zt23 : zeroT Try.prog 23 = some (.nilFunc) := by kernel_rfl
theorem ag24 : isAggT Try.prog 24 = false := by kernel_rfl
theorem sz24 : szT Try.prog 24 = some 1 := by kernel_rfl
theorem kn24 : knownT Try.prog 24 = true := by kernel_rfl
theorem zt24 : zeroT Try.prog 24 = some (.pointer none) := by kernel_rfl
theorem ag25 : isAggT Try.prog 25 = false := by kernel_rfl
theorem sz25 : szT Try.prog 25 = some 1 := by kernel_rfl
theorem kn25 : knownT Try.prog 25 = true := by kernel_rfl
theorem zt25 : zeroT Try.prog 25 = some (.slice none 0 0) := by kernel_rfl
theorem el25 : elemT Try.prog 25 = some 36 := by kernel_rfl
theorem if25 : infoT Try.prog 36 = some (11, 96) := by kernel_rfl
theorem tk25 : takesT Try.prog 25 = true := by kernel_rfl
theorem zu25 : zeroT Try.prog 36 = some (.agg #[.bool false, .bool false, .int .i64 0, .int .i64 0, .int .i64 0, .string .empty, .int .i64 0, .int .i64 0, .int .i64 0, .int .i64 0, .string .empty]) := by kernel_rfl
theorem ag26 : isAggT Try.prog 26 = true := by kernel_rfl
theorem sz26 : szT Try.prog 26 = some 1 := by kernel_rfl
theorem zt26 : zeroT Try.prog 26 = some (.agg #[.slice none 0 0]) := by kernel_rfl
theorem sd26 : sized Try.prog 26 = true := by kernel_rfl
theorem pl26_0 : place Try.prog 26 0 = some (0, 1) := by kernel_rfl
theorem ft26_0 : ftype Try.prog 26 0 = some 25 := by kernel_rfl
theorem ag27 : isAggT Try.prog 27 = true := by kernel_rfl
theorem sz27 : szT Try.prog 27 = some 1 := by kernel_rfl
theorem zt27 : zeroT Try.prog 27 = some (.agg #[.slice none 0 0]) := by kernel_rfl
theorem sd27 : sized Try.prog 27 = true := by kernel_rfl
theorem pl27_0 : place Try.prog 27 0 = some (0, 1) := by kernel_rfl
theorem ft27_0 : ftype Try.prog 27 0 = some 25 := by kernel_rfl
theorem ag28 : isAggT Try.prog 28 = false := by kernel_rfl
theorem sz28 : szT Try.prog 28 = some 1 := by kernel_rfl
theorem kn28 : knownT Try.prog 28 = true := by kernel_rfl
theorem zt28 : zeroT Try.prog 28 = some (.nilFunc) := by kernel_rfl
theorem ag29 : isAggT Try.prog 29 = true := by kernel_rfl
theorem sz29 : szT Try.prog 29 = some 3 := by kernel_rfl
theorem zt29 : zeroT Try.prog 29 = some (.agg #[.int .i64 0, .int .i64 0, .int .i64 0]) := by kernel_rfl
theorem sd29 : sized Try.prog 29 = true := by kernel_rfl
theorem pl29_0 : place Try.prog 29 0 = some (0, 1) := by kernel_rfl
theorem ft29_0 : ftype Try.prog 29 0 = some 3 := by kernel_rfl
theorem pl29_1 : place Try.prog 29 1 = some (1, 1) := by kernel_rfl
theorem ft29_1 : ftype Try.prog 29 1 = some 3 := by kernel_rfl
theorem pl29_2 : place Try.prog 29 2 = some (2, 1) := by kernel_rfl
theorem ft29_2 : ftype Try.prog 29 2 = some 3 := by kernel_rfl
theorem ag30 : isAggT Try.prog 30 = true := by kernel_rfl
theorem sz30 : szT Try.prog 30 = some 3 := by kernel_rfl
theorem zt30 : zeroT Try.prog 30 = some (.agg #[.int .i64 0, .int .i64 0, .int .i64 0]) := by kernel_rfl
theorem sd30 : sized Try.prog 30 = true := by kernel_rfl
theorem pl30_0 : place Try.prog 30 0 = some (0, 1) := by kernel_rfl
theorem ft30_0 : ftype Try.prog 30 0 = some 3 := by kernel_rfl
theorem pl30_1 : place Try.prog 30 1 = some (1, 1) := by kernel_rfl
theorem ft30_1 : ftype Try.prog 30 1 = some 3 := by kernel_rfl
theorem pl30_2 : place Try.prog 30 2 = some (2, 1) := by kernel_rfl
theorem ft30_2 : ftype Try.prog 30 2 = some 3 := by kernel_rfl
theorem ag31 : isAggT Try.prog 31 = true := by kernel_rfl
theorem sz31 : szT Try.prog 31 = some 3 := by kernel_rfl
theorem zt31 : zeroT Try.prog 31 = some (.agg #[.string .empty, .int .i64 0, .int .i64 0]) := by kernel_rfl
theorem sd31 : sized Try.prog 31 = true := by kernel_rfl
theorem pl31_0 : place Try.prog 31 0 = some (0, 1) := by kernel_rfl
theorem ft31_0 : ftype Try.prog 31 0 = some 9 := by kernel_rfl
theorem pl31_1 : place Try.prog 31 1 = some (1, 1) := by kernel_rfl
theorem ft31_1 : ftype Try.prog 31 1 = some 3 := by kernel_rfl
theorem pl31_2 : place Try.prog 31 2 = some (2, 1) := by kernel_rfl
theorem ft31_2 : ftype Try.prog 31 2 = some 3 := by kernel_rfl
theorem ag32 : isAggT Try.prog 32 = true := by kernel_rfl
theorem sz32 : szT Try.prog 32 = some 3 := by kernel_rfl
theorem zt32 : zeroT Try.prog 32 = some (.agg #[.string .empty, .int .i64 0, .int .i64 0]) := by kernel_rfl
theorem sd32 : sized Try.prog 32 = true := by kernel_rfl
theorem pl32_0 : place Try.prog 32 0 = some (0, 1) := by kernel_rfl
theorem ft32_0 : ftype Try.prog 32 0 = some 9 := by kernel_rfl
theorem pl32_1 : place Try.prog 32 1 = some (1, 1) := by kernel_rfl
theorem ft32_1 : ftype Try.prog 32 1 = some 3 := by kernel_rfl
theorem pl32_2 : place Try.prog 32 2 = some (2, 1) := by kernel_rfl
theorem ft32_2 : ftype Try.prog 32 2 = some 3 := by kernel_rfl
theorem ag33 : isAggT Try.prog 33 = true := by kernel_rfl
theorem sz33 : szT Try.prog 33 = some 3 := by kernel_rfl
theorem zt33 : zeroT Try.prog 33 = some (.agg #[.int .i64 0, .int .i64 0, .string .empty]) := by kernel_rfl
theorem sd33 : sized Try.prog 33 = true := by kernel_rfl
theorem pl33_0 : place Try.prog 33 0 = some (0, 1) := by kernel_rfl
theorem ft33_0 : ftype Try.prog 33 0 = some 3 := by kernel_rfl
theorem pl33_1 : place Try.prog 33 1 = some (1, 1) := by kernel_rfl
theorem ft33_1 : ftype Try.prog 33 1 = some 3 := by kernel_rfl
theorem pl33_2 : place Try.prog 33 2 = some (2, 1) := by kernel_rfl
theorem ft33_2 : ftype Try.prog 33 2 = some 9 := by kernel_rfl
theorem ag34 : isAggT Try.prog 34 = true := by kernel_rfl
theorem sz34 : szT Try.prog 34 = some 3 := by kernel_rfl
theorem zt34 : zeroT Try.prog 34 = some (.agg #[.int .i64 0, .int .i64 0, .string .empty]) := by kernel_rfl
theorem sd34 : sized Try.prog 34 = true := by kernel_rfl
theorem pl34_0 : place Try.prog 34 0 = some (0, 1) := by kernel_rfl
theorem ft34_0 : ftype Try.prog 34 0 = some 3 := by kernel_rfl
theorem pl34_1 : place Try.prog 34 1 = some (1, 1) := by kernel_rfl
theorem ft34_1 : ftype Try.prog 34 1 = some 3 := by kernel_rfl
theorem pl34_2 : place Try.prog 34 2 = some (2, 1) := by kernel_rfl
theorem ft34_2 : ftype Try.prog 34 2 = some 9 := by kernel_rfl
theorem ag35 : isAggT Try.prog 35 = true := by kernel_rfl
theorem sz35 : szT Try.prog 35 = some 11 := by kernel_rfl
theorem zt35 : zeroT Try.prog 35 = some (.agg #[.bool false, .bool false, .int .i64 0, .int .i64 0, .int .i64 0, .string .empty, .int .i64 0, .int .i64 0, .int .i64 0, .int .i64 0, .string .empty]) := by kernel_rfl
theorem sd35 : sized Try.prog 35 = true := by kernel_rfl
theorem pl35_0 : place Try.prog 35 0 = some (0, 1) := by kernel_rfl
theorem ft35_0 : ftype Try.prog 35 0 = some 4 := by kernel_rfl
theorem pl35_1 : place Try.prog 35 1 = some (1, 1) := by kernel_rfl
theorem ft35_1 : ftype Try.prog 35 1 = some 4 := by kernel_rfl
theorem pl35_2 : place Try.prog 35 2 = some (2, 3) := by kernel_rfl
theorem ft35_2 : ftype Try.prog 35 2 = some 30 := by kernel_rfl
theorem pl35_3 : place Try.prog 35 3 = some (5, 3) := by kernel_rfl
theorem ft35_3 : ftype Try.prog 35 3 = some 32 := by kernel_rfl
theorem pl35_4 : place Try.prog 35 4 = some (8, 3) := by kernel_rfl
theorem ft35_4 : ftype Try.prog 35 4 = some 34 := by kernel_rfl
theorem ag36 : isAggT Try.prog 36 = true := by kernel_rfl
theorem sz36 : szT Try.prog 36 = some 11 := by kernel_rfl
theorem zt36 : zeroT Try.prog 36 = some (.agg #[.bool false, .bool false, .int .i64 0, .int .i64 0, .int .i64 0, .string .empty, .int .i64 0, .int .i64 0, .int .i64 0, .int .i64 0, .string .empty]) := by kernel_rfl
theorem sd36 : sized Try.prog 36 = true := by kernel_rfl
theorem pl36_0 : place Try.prog 36 0 = some (0, 1) := by kernel_rfl
theorem ft36_0 : ftype Try.prog 36 0 = some 4 := by kernel_rfl
theorem pl36_1 : place Try.prog 36 1 = some (1, 1) := by kernel_rfl
theorem ft36_1 : ftype Try.prog 36 1 = some 4 := by kernel_rfl
theorem pl36_2 : place Try.prog 36 2 = some (2, 3) := by kernel_rfl
theorem ft36_2 : ftype Try.prog 36 2 = some 30 := by kernel_rfl
theorem pl36_3 : place Try.prog 36 3 = some (5, 3) := by kernel_rfl
theorem ft36_3 : ftype Try.prog 36 3 = some 32 := by kernel_rfl
theorem pl36_4 : place Try.prog 36 4 = some (8, 3) := by kernel_rfl
theorem ft36_4 : ftype Try.prog 36 4 = some 34 := by kernel_rfl
theorem ag37 : isAggT Try.prog 37 = true := by kernel_rfl
theorem sz37 : szT Try.prog 37 = some 12 := by kernel_rfl
theorem zt37 : zeroT Try.prog 37 = some (.agg #[.bool false, .bool false, .bool false, .int .i64 0, .int .i64 0, .int .i64 0, .string .empty, .int .i64 0, .int .i64 0, .int .i64 0, .int .i64 0, .string .empty]) := by kernel_rfl
theorem sd37 : sized Try.prog 37 = true := by kernel_rfl
theorem pl37_0 : place Try.prog 37 0 = some (0, 1) := by kernel_rfl
theorem ft37_0 : ftype Try.prog 37 0 = some 4 := by kernel_rfl
theorem pl37_1 : place Try.prog 37 1 = some (1, 11) := by kernel_rfl
theorem ft37_1 : ftype Try.prog 37 1 = some 36 := by kernel_rfl
theorem ag38 : isAggT Try.prog 38 = true := by kernel_rfl
theorem sz38 : szT Try.prog 38 = some 12 := by kernel_rfl
theorem zt38 : zeroT Try.prog 38 = some (.agg #[.bool false, .bool false, .bool false, .int .i64 0, .int .i64 0, .int .i64 0, .string .empty, .int .i64 0, .int .i64 0, .int .i64 0, .int .i64 0, .string .empty]) := by kernel_rfl
theorem sd38 : sized Try.prog 38 = true := by kernel_rfl
theorem pl38_0 : place Try.prog 38 0 = some (0, 1) := by kernel_rfl
theorem ft38_0 : ftype Try.prog 38 0 = some 4 := by kernel_rfl
theorem pl38_1 : place Try.prog 38 1 = some (1, 11) := by kernel_rfl
theorem ft38_1 : ftype Try.prog 38 1 = some 36 := by kernel_rfl
theorem ag39 : isAggT Try.prog 39 = false := by kernel_rfl
theorem sz39 : szT Try.prog 39 = some 1 := by kernel_rfl
theorem kn39 : knownT Try.prog 39 = true := by kernel_rfl
theorem ag40 : isAggT Try.prog 40 = false := by kernel_rfl
theorem sz40 : szT Try.prog 40 = some 1 := by kernel_rfl
theorem kn40 : knownT Try.prog 40 = true := by kernel_rfl
theorem zt40 : zeroT Try.prog 40 = some (.nilFunc) := by kernel_rfl
theorem ag41 : isAggT Try.prog 41 = false := by kernel_rfl
theorem sz41 : szT Try.prog 41 = some 1 := by kernel_rfl
theorem kn41 : knownT Try.prog 41 = true := by kernel_rfl
theorem zt41 : zeroT Try.prog 41 = some (.nilFunc) := by kernel_rfl
theorem ag42 : isAggT Try.prog 42 = false := by kernel_rfl
theorem sz42 : szT Try.prog 42 = some 1 := by kernel_rfl
theorem kn42 : knownT Try.prog 42 = true := by kernel_rfl
theorem zt42 : zeroT Try.prog 42 = some (.nilFunc) := by kernel_rfl
theorem ag43 : isAggT Try.prog 43 = true := by kernel_rfl
theorem sz43 : szT Try.prog 43 = some 6 := by kernel_rfl
theorem zt43 : zeroT Try.prog 43 = some (.agg #[.string .empty, .int .i64 0, .int .i64 0, .string .empty, .int .i64 0, .int .i64 0]) := by kernel_rfl
theorem sd43 : sized Try.prog 43 = true := by kernel_rfl
theorem pl43_0 : place Try.prog 43 0 = some (0, 3) := by kernel_rfl
theorem ft43_0 : ftype Try.prog 43 0 = some 32 := by kernel_rfl
theorem pl43_1 : place Try.prog 43 1 = some (3, 3) := by kernel_rfl
theorem ft43_1 : ftype Try.prog 43 1 = some 32 := by kernel_rfl
theorem ag44 : isAggT Try.prog 44 = true := by kernel_rfl
theorem sz44 : szT Try.prog 44 = some 6 := by kernel_rfl
theorem zt44 : zeroT Try.prog 44 = some (.agg #[.string .empty, .int .i64 0, .int .i64 0, .string .empty, .int .i64 0, .int .i64 0]) := by kernel_rfl
theorem sd44 : sized Try.prog 44 = true := by kernel_rfl
theorem pl44_0 : place Try.prog 44 0 = some (0, 3) := by kernel_rfl
theorem ft44_0 : ftype Try.prog 44 0 = some 32 := by kernel_rfl
theorem pl44_1 : place Try.prog 44 1 = some (3, 3) := by kernel_rfl
theorem ft44_1 : ftype Try.prog 44 1 = some 32 := by kernel_rfl
theorem ag45 : isAggT Try.prog 45 = true := by kernel_rfl
theorem sz45 : szT Try.prog 45 = some 12 := by kernel_rfl
theorem zt45 : zeroT Try.prog 45 = some (.agg #[.int .i64 0, .string .empty, .int .i64 0, .int .i64 0, .string .empty, .string .empty, .string .empty, .int .i64 0, .int .i64 0, .string .empty, .int .i64 0, .int .i64 0]) := by kernel_rfl
theorem sd45 : sized Try.prog 45 = true := by kernel_rfl
theorem pl45_0 : place Try.prog 45 0 = some (0, 1) := by kernel_rfl
theorem ft45_0 : ftype Try.prog 45 0 = some 3 := by kernel_rfl
theorem pl45_1 : place Try.prog 45 1 = some (1, 3) := by kernel_rfl
theorem ft45_1 : ftype Try.prog 45 1 = some 32 := by kernel_rfl
theorem pl45_2 : place Try.prog 45 2 = some (4, 1) := by kernel_rfl
theorem ft45_2 : ftype Try.prog 45 2 = some 9 := by kernel_rfl
theorem pl45_3 : place Try.prog 45 3 = some (5, 1) := by kernel_rfl
theorem ft45_3 : ftype Try.prog 45 3 = some 9 := by kernel_rfl
theorem pl45_4 : place Try.prog 45 4 = some (6, 6) := by kernel_rfl
theorem ft45_4 : ftype Try.prog 45 4 = some 44 := by kernel_rfl
theorem ag46 : isAggT Try.prog 46 = true := by kernel_rfl
theorem sz46 : szT Try.prog 46 = some 12 := by kernel_rfl
theorem zt46 : zeroT Try.prog 46 = some (.agg #[.int .i64 0, .string .empty, .int .i64 0, .int .i64 0, .string .empty, .string .empty, .string .empty, .int .i64 0, .int .i64 0, .string .empty, .int .i64 0, .int .i64 0]) := by kernel_rfl
theorem sd46 : sized Try.prog 46 = true := by kernel_rfl
theorem pl46_0 : place Try.prog 46 0 = some (0, 1) := by kernel_rfl
theorem ft46_0 : ftype Try.prog 46 0 = some 3 := by kernel_rfl
theorem pl46_1 : place Try.prog 46 1 = some (1, 3) := by kernel_rfl
theorem ft46_1 : ftype Try.prog 46 1 = some 32 := by kernel_rfl
theorem pl46_2 : place Try.prog 46 2 = some (4, 1) := by kernel_rfl
theorem ft46_2 : ftype Try.prog 46 2 = some 9 := by kernel_rfl
theorem pl46_3 : place Try.prog 46 3 = some (5, 1) := by kernel_rfl
theorem ft46_3 : ftype Try.prog 46 3 = some 9 := by kernel_rfl
theorem pl46_4 : place Try.prog 46 4 = some (6, 6) := by kernel_rfl
theorem ft46_4 : ftype Try.prog 46 4 = some 44 := by kernel_rfl
theorem ag47 : isAggT Try.prog 47 = false := by kernel_rfl
theorem sz47 : szT Try.prog 47 = some 1 := by kernel_rfl
theorem kn47 : knownT Try.prog 47 = true := by kernel_rfl
theorem zt47 : zeroT Try.prog 47 = some (.slice none 0 0) := by kernel_rfl
theorem el47 : elemT Try.prog 47 = some 5 := by kernel_rfl
theorem if47 : infoT Try.prog 5 = some (1, 1) := by kernel_rfl
theorem tk47 : takesT Try.prog 47 = true := by kernel_rfl
theorem zu47 : zeroT Try.prog 5 = some (.int .u8 0) := by kernel_rfl
theorem ag48 : isAggT Try.prog 48 = false := by kernel_rfl
theorem sz48 : szT Try.prog 48 = some 1 := by kernel_rfl
theorem kn48 : knownT Try.prog 48 = true := by kernel_rfl
theorem zt48 : zeroT Try.prog 48 = some (.nilFunc) := by kernel_rfl
theorem ag49 : isAggT Try.prog 49 = false := by kernel_rfl
theorem sz49 : szT Try.prog 49 = some 1 := by kernel_rfl
theorem kn49 : knownT Try.prog 49 = true := by kernel_rfl
theorem zt49 : zeroT Try.prog 49 = some (.int .i64 0) := by kernel_rfl
theorem ag50 : isAggT Try.prog 50 = false := by kernel_rfl
theorem sz50 : szT Try.prog 50 = some 1 := by kernel_rfl
theorem kn50 : knownT Try.prog 50 = true := by kernel_rfl
theorem ag51 : isAggT Try.prog 51 = false := by kernel_rfl
theorem sz51 : szT Try.prog 51 = some 1 := by kernel_rfl
theorem kn51 : knownT Try.prog 51 = true := by kernel_rfl
theorem zt51 : zeroT Try.prog 51 = some (.nilFunc) := by kernel_rfl
theorem ag52 : isAggT Try.prog 52 = false := by kernel_rfl
theorem sz52 : szT Try.prog 52 = some 1 := by kernel_rfl
theorem kn52 : knownT Try.prog 52 = true := by kernel_rfl
theorem ag53 : isAggT Try.prog 53 = false := by kernel_rfl
theorem sz53 : szT Try.prog 53 = some 1 := by kernel_rfl
theorem kn53 : knownT Try.prog 53 = true := by kernel_rfl
theorem zt53 : zeroT Try.prog 53 = some (.nilFunc) := by kernel_rfl
theorem ag54 : isAggT Try.prog 54 = false := by kernel_rfl
theorem sz54 : szT Try.prog 54 = some 1 := by kernel_rfl
theorem kn54 : knownT Try.prog 54 = true := by kernel_rfl
theorem zt54 : zeroT Try.prog 54 = some (.nilFunc) := by kernel_rfl
theorem ag55 : isAggT Try.prog 55 = false := by kernel_rfl
theorem sz55 : szT Try.prog 55 = some 1 := by kernel_rfl
theorem kn55 : knownT Try.prog 55 = true := by kernel_rfl
theorem zt55 : zeroT Try.prog 55 = some (.nilFunc) := by kernel_rfl
theorem ag56 : isAggT Try.prog 56 = false := by kernel_rfl
theorem sz56 : szT Try.prog 56 = some 1 := by kernel_rfl
theorem kn56 : knownT Try.prog 56 = true := by kernel_rfl
theorem zt56 : zeroT Try.prog 56 = some (.slice none 0 0) := by kernel_rfl
theorem el56 : elemT Try.prog 56 = some 66 := by kernel_rfl
theorem if56 : infoT Try.prog 66 = some (3, 32) := by kernel_rfl
theorem tk56 : takesT Try.prog 56 = true := by kernel_rfl
theorem zu56 : zeroT Try.prog 66 = some (.agg #[.int .i64 0, .int .i64 0, .string .empty]) := by kernel_rfl
theorem ag57 : isAggT Try.prog 57 = false := by kernel_rfl
theorem sz57 : szT Try.prog 57 = some 1 := by kernel_rfl
theorem kn57 : knownT Try.prog 57 = true := by kernel_rfl
theorem ag58 : isAggT Try.prog 58 = false := by kernel_rfl
theorem sz58 : szT Try.prog 58 = some 1 := by kernel_rfl
theorem kn58 : knownT Try.prog 58 = true := by kernel_rfl
theorem zt58 : zeroT Try.prog 58 = some (.nilFunc) := by kernel_rfl
theorem ag59 : isAggT Try.prog 59 = false := by kernel_rfl
theorem sz59 : szT Try.prog 59 = some 1 := by kernel_rfl
theorem kn59 : knownT Try.prog 59 = true := by kernel_rfl
theorem ag60 : isAggT Try.prog 60 = false := by kernel_rfl
theorem sz60 : szT Try.prog 60 = some 1 := by kernel_rfl
theorem kn60 : knownT Try.prog 60 = true := by kernel_rfl
theorem zt60 : zeroT Try.prog 60 = some (.nilFunc) := by kernel_rfl
theorem ag61 : isAggT Try.prog 61 = false := by kernel_rfl
theorem sz61 : szT Try.prog 61 = some 1 := by kernel_rfl
theorem kn61 : knownT Try.prog 61 = true := by kernel_rfl
theorem zt61 : zeroT Try.prog 61 = some (.nilFunc) := by kernel_rfl
theorem ag62 : isAggT Try.prog 62 = false := by kernel_rfl
theorem sz62 : szT Try.prog 62 = some 1 := by kernel_rfl
theorem kn62 : knownT Try.prog 62 = true := by kernel_rfl
theorem zt62 : zeroT Try.prog 62 = some (.nilFunc) := by kernel_rfl
theorem ag63 : isAggT Try.prog 63 = false := by kernel_rfl
theorem sz63 : szT Try.prog 63 = some 1 := by kernel_rfl
theorem kn63 : knownT Try.prog 63 = true := by kernel_rfl
theorem zt63 : zeroT Try.prog 63 = some (.slice none 0 0) := by kernel_rfl
theorem el63 : elemT Try.prog 63 = some 9 := by kernel_rfl
theorem if63 : infoT Try.prog 9 = some (1, 16) := by kernel_rfl
theorem tk63 : takesT Try.prog 63 = true := by kernel_rfl
theorem zu63 : zeroT Try.prog 9 = some (.string .empty) := by kernel_rfl
theorem ag64 : isAggT Try.prog 64 = false := by kernel_rfl
theorem sz64 : szT Try.prog 64 = some 1 := by kernel_rfl
theorem kn64 : knownT Try.prog 64 = true := by kernel_rfl
theorem zt64 : zeroT Try.prog 64 = some (.slice none 0 0) := by kernel_rfl
theorem el64 : elemT Try.prog 64 = some 3 := by kernel_rfl
theorem if64 : infoT Try.prog 3 = some (1, 8) := by kernel_rfl
theorem tk64 : takesT Try.prog 64 = true := by kernel_rfl
theorem zu64 : zeroT Try.prog 3 = some (.int .i64 0) := by kernel_rfl
theorem ag65 : isAggT Try.prog 65 = true := by kernel_rfl
theorem sz65 : szT Try.prog 65 = some 3 := by kernel_rfl
theorem zt65 : zeroT Try.prog 65 = some (.agg #[.int .i64 0, .int .i64 0, .string .empty]) := by kernel_rfl
theorem sd65 : sized Try.prog 65 = true := by kernel_rfl
theorem pl65_0 : place Try.prog 65 0 = some (0, 1) := by kernel_rfl
theorem ft65_0 : ftype Try.prog 65 0 = some 3 := by kernel_rfl
theorem pl65_1 : place Try.prog 65 1 = some (1, 1) := by kernel_rfl
theorem ft65_1 : ftype Try.prog 65 1 = some 3 := by kernel_rfl
theorem pl65_2 : place Try.prog 65 2 = some (2, 1) := by kernel_rfl
theorem ft65_2 : ftype Try.prog 65 2 = some 9 := by kernel_rfl
theorem ag66 : isAggT Try.prog 66 = true := by kernel_rfl
theorem sz66 : szT Try.prog 66 = some 3 := by kernel_rfl
theorem zt66 : zeroT Try.prog 66 = some (.agg #[.int .i64 0, .int .i64 0, .string .empty]) := by kernel_rfl
theorem sd66 : sized Try.prog 66 = true := by kernel_rfl
theorem pl66_0 : place Try.prog 66 0 = some (0, 1) := by kernel_rfl
theorem ft66_0 : ftype Try.prog 66 0 = some 3 := by kernel_rfl
theorem pl66_1 : place Try.prog 66 1 = some (1, 1) := by kernel_rfl
theorem ft66_1 : ftype Try.prog 66 1 = some 3 := by kernel_rfl
theorem pl66_2 : place Try.prog 66 2 = some (2, 1) := by kernel_rfl
theorem ft66_2 : ftype Try.prog 66 2 = some 9 := by kernel_rfl
theorem ag67 : isAggT Try.prog 67 = false := by kernel_rfl
theorem sz67 : szT Try.prog 67 = some 1 := by kernel_rfl
theorem kn67 : knownT Try.prog 67 = true := by kernel_rfl
theorem zt67 : zeroT Try.prog 67 = some (.nilFunc) := by kernel_rfl
theorem ag68 : isAggT Try.prog 68 = false := by kernel_rfl
theorem sz68 : szT Try.prog 68 = some 1 := by kernel_rfl
theorem kn68 : knownT Try.prog 68 = true := by kernel_rfl
theorem zt68 : zeroT Try.prog 68 = some (.slice none 0 0) := by kernel_rfl
theorem el68 : elemT Try.prog 68 = some 76 := by kernel_rfl
theorem if68 : infoT Try.prog 76 = some (6, 64) := by kernel_rfl
theorem tk68 : takesT Try.prog 68 = true := by kernel_rfl
theorem zu68 : zeroT Try.prog 76 = some (.agg #[.string .empty, .int .i64 0, .int .i64 0, .int .i64 0, .int .i64 0, .string .empty]) := by kernel_rfl
theorem ag69 : isAggT Try.prog 69 = true := by kernel_rfl
theorem sz69 : szT Try.prog 69 = some 4 := by kernel_rfl
theorem zt69 : zeroT Try.prog 69 = some (.agg #[.int .i64 0, .int .i64 0, .int .i64 0, .slice none 0 0]) := by kernel_rfl
theorem sd69 : sized Try.prog 69 = true := by kernel_rfl
theorem pl69_0 : place Try.prog 69 0 = some (0, 1) := by kernel_rfl
theorem ft69_0 : ftype Try.prog 69 0 = some 3 := by kernel_rfl
theorem pl69_1 : place Try.prog 69 1 = some (1, 1) := by kernel_rfl
theorem ft69_1 : ftype Try.prog 69 1 = some 3 := by kernel_rfl
theorem pl69_2 : place Try.prog 69 2 = some (2, 1) := by kernel_rfl
theorem ft69_2 : ftype Try.prog 69 2 = some 49 := by kernel_rfl
theorem pl69_3 : place Try.prog 69 3 = some (3, 1) := by kernel_rfl
theorem ft69_3 : ftype Try.prog 69 3 = some 68 := by kernel_rfl
theorem ag70 : isAggT Try.prog 70 = true := by kernel_rfl
theorem sz70 : szT Try.prog 70 = some 4 := by kernel_rfl
theorem zt70 : zeroT Try.prog 70 = some (.agg #[.int .i64 0, .int .i64 0, .int .i64 0, .slice none 0 0]) := by kernel_rfl
theorem sd70 : sized Try.prog 70 = true := by kernel_rfl
theorem pl70_0 : place Try.prog 70 0 = some (0, 1) := by kernel_rfl
theorem ft70_0 : ftype Try.prog 70 0 = some 3 := by kernel_rfl
theorem pl70_1 : place Try.prog 70 1 = some (1, 1) := by kernel_rfl
theorem ft70_1 : ftype Try.prog 70 1 = some 3 := by kernel_rfl
theorem pl70_2 : place Try.prog 70 2 = some (2, 1) := by kernel_rfl
theorem ft70_2 : ftype Try.prog 70 2 = some 49 := by kernel_rfl
theorem pl70_3 : place Try.prog 70 3 = some (3, 1) := by kernel_rfl
theorem ft70_3 : ftype Try.prog 70 3 = some 68 := by kernel_rfl
theorem ag71 : isAggT Try.prog 71 = false := by kernel_rfl
theorem sz71 : szT Try.prog 71 = some 1 := by kernel_rfl
theorem kn71 : knownT Try.prog 71 = true := by kernel_rfl
theorem zt71 : zeroT Try.prog 71 = some (.nilFunc) := by kernel_rfl
theorem ag72 : isAggT Try.prog 72 = false := by kernel_rfl
theorem sz72 : szT Try.prog 72 = some 1 := by kernel_rfl
theorem kn72 : knownT Try.prog 72 = true := by kernel_rfl
theorem ag73 : isAggT Try.prog 73 = false := by kernel_rfl
theorem sz73 : szT Try.prog 73 = some 1 := by kernel_rfl
theorem kn73 : knownT Try.prog 73 = true := by kernel_rfl
theorem zt73 : zeroT Try.prog 73 = some (.nilFunc) := by kernel_rfl
theorem ag74 : isAggT Try.prog 74 = false := by kernel_rfl
theorem sz74 : szT Try.prog 74 = some 1 := by kernel_rfl
theorem kn74 : knownT Try.prog 74 = true := by kernel_rfl
theorem zt74 : zeroT Try.prog 74 = some (.nilFunc) := by kernel_rfl
theorem ag75 : isAggT Try.prog 75 = true := by kernel_rfl
theorem sz75 : szT Try.prog 75 = some 6 := by kernel_rfl
theorem zt75 : zeroT Try.prog 75 = some (.agg #[.string .empty, .int .i64 0, .int .i64 0, .int .i64 0, .int .i64 0, .string .empty]) := by kernel_rfl
theorem sd75 : sized Try.prog 75 = true := by kernel_rfl
theorem pl75_0 : place Try.prog 75 0 = some (0, 3) := by kernel_rfl
theorem ft75_0 : ftype Try.prog 75 0 = some 32 := by kernel_rfl
theorem pl75_1 : place Try.prog 75 1 = some (3, 3) := by kernel_rfl
theorem ft75_1 : ftype Try.prog 75 1 = some 34 := by kernel_rfl
theorem ag76 : isAggT Try.prog 76 = true := by kernel_rfl
theorem sz76 : szT Try.prog 76 = some 6 := by kernel_rfl
theorem zt76 : zeroT Try.prog 76 = some (.agg #[.string .empty, .int .i64 0, .int .i64 0, .int .i64 0, .int .i64 0, .string .empty]) := by kernel_rfl
theorem sd76 : sized Try.prog 76 = true := by kernel_rfl
theorem pl76_0 : place Try.prog 76 0 = some (0, 3) := by kernel_rfl
theorem ft76_0 : ftype Try.prog 76 0 = some 32 := by kernel_rfl
theorem pl76_1 : place Try.prog 76 1 = some (3, 3) := by kernel_rfl
theorem ft76_1 : ftype Try.prog 76 1 = some 34 := by kernel_rfl
theorem ag77 : isAggT Try.prog 77 = false := by kernel_rfl
theorem sz77 : szT Try.prog 77 = some 1 := by kernel_rfl
theorem kn77 : knownT Try.prog 77 = true := by kernel_rfl
theorem ag78 : isAggT Try.prog 78 = false := by kernel_rfl
theorem sz78 : szT Try.prog 78 = some 1 := by kernel_rfl
theorem kn78 : knownT Try.prog 78 = true := by kernel_rfl
theorem zt78 : zeroT Try.prog 78 = some (.nilFunc) := by kernel_rfl
theorem ag79 : isAggT Try.prog 79 = false := by kernel_rfl
theorem sz79 : szT Try.prog 79 = some 1 := by kernel_rfl
theorem kn79 : knownT Try.prog 79 = true := by kernel_rfl
theorem zt79 : zeroT Try.prog 79 = some (.nilFunc) := by kernel_rfl
theorem ag80 : isAggT Try.prog 80 = false := by kernel_rfl
theorem sz80 : szT Try.prog 80 = some 1 := by kernel_rfl
theorem kn80 : knownT Try.prog 80 = true := by kernel_rfl
theorem zt80 : zeroT Try.prog 80 = some (.nilFunc) := by kernel_rfl
theorem ag81 : isAggT Try.prog 81 = false := by kernel_rfl
theorem sz81 : szT Try.prog 81 = some 1 := by kernel_rfl
theorem kn81 : knownT Try.prog 81 = true := by kernel_rfl
theorem zt81 : zeroT Try.prog 81 = some (.pointer none) := by kernel_rfl
theorem ag82 : isAggT Try.prog 82 = true := by kernel_rfl
theorem sz82 : szT Try.prog 82 = some 2 := by kernel_rfl
theorem zt82 : zeroT Try.prog 82 = some (.agg #[.slice none 0 0, .bool false]) := by kernel_rfl
theorem sd82 : sized Try.prog 82 = true := by kernel_rfl
theorem pl82_0 : place Try.prog 82 0 = some (0, 1) := by kernel_rfl
theorem ft82_0 : ftype Try.prog 82 0 = some 47 := by kernel_rfl
theorem pl82_1 : place Try.prog 82 1 = some (1, 1) := by kernel_rfl
theorem ft82_1 : ftype Try.prog 82 1 = some 4 := by kernel_rfl
theorem ag83 : isAggT Try.prog 83 = true := by kernel_rfl
theorem sz83 : szT Try.prog 83 = some 2 := by kernel_rfl
theorem zt83 : zeroT Try.prog 83 = some (.agg #[.slice none 0 0, .bool false]) := by kernel_rfl
theorem sd83 : sized Try.prog 83 = true := by kernel_rfl
theorem pl83_0 : place Try.prog 83 0 = some (0, 1) := by kernel_rfl
theorem ft83_0 : ftype Try.prog 83 0 = some 47 := by kernel_rfl
theorem pl83_1 : place Try.prog 83 1 = some (1, 1) := by kernel_rfl
theorem ft83_1 : ftype Try.prog 83 1 = some 4 := by kernel_rfl
theorem ag84 : isAggT Try.prog 84 = false := by kernel_rfl
theorem sz84 : szT Try.prog 84 = some 1 := by kernel_rfl
theorem kn84 : knownT Try.prog 84 = true := by kernel_rfl
theorem zt84 : zeroT Try.prog 84 = some (.nilFunc) := by kernel_rfl
theorem ag85 : isAggT Try.prog 85 = false := by kernel_rfl
theorem sz85 : szT Try.prog 85 = some 1 := by kernel_rfl
theorem kn85 : knownT Try.prog 85 = true := by kernel_rfl
theorem zt85 : zeroT Try.prog 85 = some (.nilFunc) := by kernel_rfl
theorem ag86 : isAggT Try.prog 86 = false := by kernel_rfl
theorem sz86 : szT Try.prog 86 = some 1 := by kernel_rfl
theorem kn86 : knownT Try.prog 86 = true := by kernel_rfl
theorem zt86 : zeroT Try.prog 86 = some (.nilFunc) := by kernel_rfl
theorem ag87 : isAggT Try.prog 87 = false := by kernel_rfl
theorem sz87 : szT Try.prog 87 = some 1 := by kernel_rfl
theorem kn87 : knownT Try.prog 87 = true := by kernel_rfl
theorem zt87 : zeroT Try.prog 87 = some (.pointer none) := by kernel_rfl
theorem ag88 : isAggT Try.prog 88 = true := by kernel_rfl
theorem sz88 : szT Try.prog 88 = some 2 := by kernel_rfl
theorem zt88 : zeroT Try.prog 88 = some (.agg #[.slice none 0 0, .bool false]) := by kernel_rfl
theorem sd88 : sized Try.prog 88 = true := by kernel_rfl
theorem pl88_0 : place Try.prog 88 0 = some (0, 1) := by kernel_rfl
theorem ft88_0 : ftype Try.prog 88 0 = some 47 := by kernel_rfl
theorem pl88_1 : place Try.prog 88 1 = some (1, 1) := by kernel_rfl
theorem ft88_1 : ftype Try.prog 88 1 = some 4 := by kernel_rfl
theorem ag89 : isAggT Try.prog 89 = false := by kernel_rfl
theorem sz89 : szT Try.prog 89 = some 1 := by kernel_rfl
theorem kn89 : knownT Try.prog 89 = true := by kernel_rfl
theorem zt89 : zeroT Try.prog 89 = some (.nilFunc) := by kernel_rfl
theorem ag90 : isAggT Try.prog 90 = false := by kernel_rfl
theorem sz90 : szT Try.prog 90 = some 1 := by kernel_rfl
theorem kn90 : knownT Try.prog 90 = true := by kernel_rfl
theorem zt90 : zeroT Try.prog 90 = some (.nilFunc) := by kernel_rfl
theorem ag91 : isAggT Try.prog 91 = false := by kernel_rfl
theorem sz91 : szT Try.prog 91 = some 1 := by kernel_rfl
theorem kn91 : knownT Try.prog 91 = true := by kernel_rfl
theorem zt91 : zeroT Try.prog 91 = some (.nilFunc) := by kernel_rfl
theorem ag92 : isAggT Try.prog 92 = false := by kernel_rfl
theorem sz92 : szT Try.prog 92 = some 1 := by kernel_rfl
theorem kn92 : knownT Try.prog 92 = true := by kernel_rfl
theorem zt92 : zeroT Try.prog 92 = some (.pointer none) := by kernel_rfl
theorem ag93 : isAggT Try.prog 93 = true := by kernel_rfl
theorem sz93 : szT Try.prog 93 = some 2 := by kernel_rfl
theorem zt93 : zeroT Try.prog 93 = some (.agg #[.slice none 0 0, .bool false]) := by kernel_rfl
theorem sd93 : sized Try.prog 93 = true := by kernel_rfl
theorem pl93_0 : place Try.prog 93 0 = some (0, 1) := by kernel_rfl
theorem ft93_0 : ftype Try.prog 93 0 = some 47 := by kernel_rfl
theorem pl93_1 : place Try.prog 93 1 = some (1, 1) := by kernel_rfl
theorem ft93_1 : ftype Try.prog 93 1 = some 4 := by kernel_rfl
theorem ag94 : isAggT Try.prog 94 = true := by kernel_rfl
theorem sz94 : szT Try.prog 94 = some 2 := by kernel_rfl
theorem zt94 : zeroT Try.prog 94 = some (.agg #[.slice none 0 0, .bool false]) := by kernel_rfl
theorem sd94 : sized Try.prog 94 = true := by kernel_rfl
theorem pl94_0 : place Try.prog 94 0 = some (0, 1) := by kernel_rfl
theorem ft94_0 : ftype Try.prog 94 0 = some 47 := by kernel_rfl
theorem pl94_1 : place Try.prog 94 1 = some (1, 1) := by kernel_rfl
theorem ft94_1 : ftype Try.prog 94 1 = some 4 := by kernel_rfl
theorem ag95 : isAggT Try.prog 95 = false := by kernel_rfl
theorem sz95 : szT Try.prog 95 = some 1 := by kernel_rfl
theorem kn95 : knownT Try.prog 95 = true := by kernel_rfl
theorem ag96 : isAggT Try.prog 96 = false := by kernel_rfl
theorem sz96 : szT Try.prog 96 = some 1 := by kernel_rfl
theorem kn96 : knownT Try.prog 96 = true := by kernel_rfl
theorem zt96 : zeroT Try.prog 96 = some (.nilFunc) := by kernel_rfl
theorem ag97 : isAggT Try.prog 97 = false := by kernel_rfl
theorem sz97 : szT Try.prog 97 = some 1 := by kernel_rfl
theorem kn97 : knownT Try.prog 97 = true := by kernel_rfl
theorem zt97 : zeroT Try.prog 97 = some (.nilFunc) := by kernel_rfl
theorem ag98 : isAggT Try.prog 98 = false := by kernel_rfl
theorem sz98 : szT Try.prog 98 = some 1 := by kernel_rfl
theorem kn98 : knownT Try.prog 98 = true := by kernel_rfl
theorem ag99 : isAggT Try.prog 99 = false := by kernel_rfl
theorem sz99 : szT Try.prog 99 = some 1 := by kernel_rfl
theorem kn99 : knownT Try.prog 99 = true := by kernel_rfl
theorem zt99 : zeroT Try.prog 99 = some (.nilFunc) := by kernel_rfl
theorem ag100 : isAggT Try.prog 100 = false := by kernel_rfl
theorem sz100 : szT Try.prog 100 = some 1 := by kernel_rfl
theorem kn100 : knownT Try.prog 100 = true := by kernel_rfl
theorem zt100 : zeroT Try.prog 100 = some (.nilFunc) := by kernel_rfl
theorem ag101 : isAggT Try.prog 101 = false := by kernel_rfl
theorem sz101 : szT Try.prog 101 = some 1 := by kernel_rfl
theorem kn101 : knownT Try.prog 101 = true := by kernel_rfl
theorem ag102 : isAggT Try.prog 102 = false := by kernel_rfl
theorem sz102 : szT Try.prog 102 = some 1 := by kernel_rfl
theorem kn102 : knownT Try.prog 102 = true := by kernel_rfl
theorem zt102 : zeroT Try.prog 102 = some (.nilFunc) := by kernel_rfl
theorem ag103 : isAggT Try.prog 103 = false := by kernel_rfl
theorem sz103 : szT Try.prog 103 = some 1 := by kernel_rfl
theorem kn103 : knownT Try.prog 103 = true := by kernel_rfl
theorem zt103 : zeroT Try.prog 103 = some (.nilFunc) := by kernel_rfl
theorem ag104 : isAggT Try.prog 104 = false := by kernel_rfl
theorem sz104 : szT Try.prog 104 = some 1 := by kernel_rfl
theorem kn104 : knownT Try.prog 104 = true := by kernel_rfl
theorem zt104 : zeroT Try.prog 104 = some (.int .u64 0) := by kernel_rfl
theorem ag105 : isAggT Try.prog 105 = false := by kernel_rfl
theorem sz105 : szT Try.prog 105 = some 1 := by kernel_rfl
theorem kn105 : knownT Try.prog 105 = true := by kernel_rfl
theorem zt105 : zeroT Try.prog 105 = some (.nilFunc) := by kernel_rfl
theorem ag106 : isAggT Try.prog 106 = false := by kernel_rfl
theorem sz106 : szT Try.prog 106 = some 1 := by kernel_rfl
theorem kn106 : knownT Try.prog 106 = true := by kernel_rfl
theorem zt106 : zeroT Try.prog 106 = some (.nilFunc) := by kernel_rfl
theorem ag107 : isAggT Try.prog 107 = false := by kernel_rfl
theorem sz107 : szT Try.prog 107 = some 1 := by kernel_rfl
theorem kn107 : knownT Try.prog 107 = true := by kernel_rfl
theorem zt107 : zeroT Try.prog 107 = some (.nilFunc) := by kernel_rfl
theorem ag108 : isAggT Try.prog 108 = false := by kernel_rfl
theorem sz108 : szT Try.prog 108 = some 1 := by kernel_rfl
theorem kn108 : knownT Try.prog 108 = true := by kernel_rfl
theorem zt108 : zeroT Try.prog 108 = some (.nilFunc) := by kernel_rfl
theorem ag109 : isAggT Try.prog 109 = false := by kernel_rfl
theorem sz109 : szT Try.prog 109 = some 1 := by kernel_rfl
theorem kn109 : knownT Try.prog 109 = true := by kernel_rfl
theorem ag110 : isAggT Try.prog 110 = false := by kernel_rfl
theorem sz110 : szT Try.prog 110 = some 1 := by kernel_rfl
theorem kn110 : knownT Try.prog 110 = true := by kernel_rfl
theorem zt110 : zeroT Try.prog 110 = some (.nilFunc) := by kernel_rfl
theorem ag111 : isAggT Try.prog 111 = false := by kernel_rfl
theorem sz111 : szT Try.prog 111 = some 1 := by kernel_rfl
theorem kn111 : knownT Try.prog 111 = true := by kernel_rfl
theorem zt111 : zeroT Try.prog 111 = some (.nilFunc) := by kernel_rfl
theorem ag112 : isAggT Try.prog 112 = false := by kernel_rfl
theorem sz112 : szT Try.prog 112 = some 1 := by kernel_rfl
theorem kn112 : knownT Try.prog 112 = true := by kernel_rfl
theorem zt112 : zeroT Try.prog 112 = some (.nilFunc) := by kernel_rfl
theorem ag113 : isAggT Try.prog 113 = false := by kernel_rfl
theorem sz113 : szT Try.prog 113 = some 1 := by kernel_rfl
theorem kn113 : knownT Try.prog 113 = true := by kernel_rfl
theorem zt113 : zeroT Try.prog 113 = some (.nilFunc) := by kernel_rfl
theorem ag114 : isAggT Try.prog 114 = false := by kernel_rfl
theorem sz114 : szT Try.prog 114 = some 1 := by kernel_rfl
theorem kn114 : knownT Try.prog 114 = true := by kernel_rfl
theorem zt114 : zeroT Try.prog 114 = some (.nilFunc) := by kernel_rfl
theorem ag115 : isAggT Try.prog 115 = false := by kernel_rfl
theorem sz115 : szT Try.prog 115 = some 1 := by kernel_rfl
theorem kn115 : knownT Try.prog 115 = true := by kernel_rfl
theorem zt115 : zeroT Try.prog 115 = some (.int .u64 0) := by kernel_rfl
theorem ag116 : isAggT Try.prog 116 = false := by kernel_rfl
theorem sz116 : szT Try.prog 116 = some 1 := by kernel_rfl
theorem kn116 : knownT Try.prog 116 = true := by kernel_rfl
theorem ag117 : isAggT Try.prog 117 = false := by kernel_rfl
theorem sz117 : szT Try.prog 117 = some 1 := by kernel_rfl
theorem kn117 : knownT Try.prog 117 = true := by kernel_rfl
theorem zt117 : zeroT Try.prog 117 = some (.nilFunc) := by kernel_rfl
theorem ag118 : isAggT Try.prog 118 = false := by kernel_rfl
theorem sz118 : szT Try.prog 118 = some 1 := by kernel_rfl
theorem kn118 : knownT Try.prog 118 = true := by kernel_rfl
theorem zt118 : zeroT Try.prog 118 = some (.pointer none) := by kernel_rfl
theorem ag119 : isAggT Try.prog 119 = true := by kernel_rfl
theorem sz119 : szT Try.prog 119 = some 2 := by kernel_rfl
theorem zt119 : zeroT Try.prog 119 = some (.agg #[.pointer none, .slice none 0 0]) := by kernel_rfl
theorem sd119 : sized Try.prog 119 = true := by kernel_rfl
theorem pl119_0 : place Try.prog 119 0 = some (0, 1) := by kernel_rfl
theorem ft119_0 : ftype Try.prog 119 0 = some 118 := by kernel_rfl
theorem pl119_1 : place Try.prog 119 1 = some (1, 1) := by kernel_rfl
theorem ft119_1 : ftype Try.prog 119 1 = some 47 := by kernel_rfl
theorem ag120 : isAggT Try.prog 120 = true := by kernel_rfl
theorem sz120 : szT Try.prog 120 = some 2 := by kernel_rfl
theorem zt120 : zeroT Try.prog 120 = some (.agg #[.pointer none, .slice none 0 0]) := by kernel_rfl
theorem sd120 : sized Try.prog 120 = true := by kernel_rfl
theorem pl120_0 : place Try.prog 120 0 = some (0, 1) := by kernel_rfl
theorem ft120_0 : ftype Try.prog 120 0 = some 118 := by kernel_rfl
theorem pl120_1 : place Try.prog 120 1 = some (1, 1) := by kernel_rfl
theorem ft120_1 : ftype Try.prog 120 1 = some 47 := by kernel_rfl
theorem ag121 : isAggT Try.prog 121 = false := by kernel_rfl
theorem sz121 : szT Try.prog 121 = some 1 := by kernel_rfl
theorem kn121 : knownT Try.prog 121 = true := by kernel_rfl
theorem zt121 : zeroT Try.prog 121 = some (.nilIface) := by kernel_rfl
theorem ag122 : isAggT Try.prog 122 = false := by kernel_rfl
theorem sz122 : szT Try.prog 122 = some 1 := by kernel_rfl
theorem kn122 : knownT Try.prog 122 = true := by kernel_rfl
theorem zt122 : zeroT Try.prog 122 = some (.nilIface) := by kernel_rfl
theorem ag123 : isAggT Try.prog 123 = false := by kernel_rfl
theorem sz123 : szT Try.prog 123 = some 1 := by kernel_rfl
theorem kn123 : knownT Try.prog 123 = true := by kernel_rfl
theorem zt123 : zeroT Try.prog 123 = some (.nilFunc) := by kernel_rfl
theorem ag124 : isAggT Try.prog 124 = false := by kernel_rfl
theorem sz124 : szT Try.prog 124 = some 1 := by kernel_rfl
theorem kn124 : knownT Try.prog 124 = true := by kernel_rfl
theorem zt124 : zeroT Try.prog 124 = some (.nilFunc) := by kernel_rfl
theorem ag125 : isAggT Try.prog 125 = false := by kernel_rfl
theorem sz125 : szT Try.prog 125 = some 1 := by kernel_rfl
theorem kn125 : knownT Try.prog 125 = true := by kernel_rfl
theorem zt125 : zeroT Try.prog 125 = some (.nilFunc) := by kernel_rfl
theorem ag126 : isAggT Try.prog 126 = false := by kernel_rfl
theorem sz126 : szT Try.prog 126 = some 1 := by kernel_rfl
theorem kn126 : knownT Try.prog 126 = true := by kernel_rfl
theorem zt126 : zeroT Try.prog 126 = some (.pointer none) := by kernel_rfl
theorem ag127 : isAggT Try.prog 127 = false := by kernel_rfl
theorem sz127 : szT Try.prog 127 = some 1 := by kernel_rfl
theorem kn127 : knownT Try.prog 127 = true := by kernel_rfl
theorem zt127 : zeroT Try.prog 127 = some (.pointer none) := by kernel_rfl
theorem ag128 : isAggT Try.prog 128 = false := by kernel_rfl
theorem sz128 : szT Try.prog 128 = some 1 := by kernel_rfl
theorem kn128 : knownT Try.prog 128 = true := by kernel_rfl
theorem zt128 : zeroT Try.prog 128 = some (.nilFunc) := by kernel_rfl
theorem ag129 : isAggT Try.prog 129 = true := by kernel_rfl
theorem sz129 : szT Try.prog 129 = some 4 := by kernel_rfl
theorem zt129 : zeroT Try.prog 129 = some (.agg #[.pointer none, .pointer none, .pointer none, .string .empty]) := by kernel_rfl
theorem sd129 : sized Try.prog 129 = true := by kernel_rfl
theorem pl129_0 : place Try.prog 129 0 = some (0, 1) := by kernel_rfl
theorem ft129_0 : ftype Try.prog 129 0 = some 17 := by kernel_rfl
theorem pl129_1 : place Try.prog 129 1 = some (1, 1) := by kernel_rfl
theorem ft129_1 : ftype Try.prog 129 1 = some 17 := by kernel_rfl
theorem pl129_2 : place Try.prog 129 2 = some (2, 1) := by kernel_rfl
theorem ft129_2 : ftype Try.prog 129 2 = some 17 := by kernel_rfl
theorem pl129_3 : place Try.prog 129 3 = some (3, 1) := by kernel_rfl
theorem ft129_3 : ftype Try.prog 129 3 = some 9 := by kernel_rfl
theorem ag130 : isAggT Try.prog 130 = true := by kernel_rfl
theorem sz130 : szT Try.prog 130 = some 4 := by kernel_rfl
theorem zt130 : zeroT Try.prog 130 = some (.agg #[.pointer none, .pointer none, .pointer none, .string .empty]) := by kernel_rfl
theorem sd130 : sized Try.prog 130 = true := by kernel_rfl
theorem pl130_0 : place Try.prog 130 0 = some (0, 1) := by kernel_rfl
theorem ft130_0 : ftype Try.prog 130 0 = some 17 := by kernel_rfl
theorem pl130_1 : place Try.prog 130 1 = some (1, 1) := by kernel_rfl
theorem ft130_1 : ftype Try.prog 130 1 = some 17 := by kernel_rfl
theorem pl130_2 : place Try.prog 130 2 = some (2, 1) := by kernel_rfl
theorem ft130_2 : ftype Try.prog 130 2 = some 17 := by kernel_rfl
theorem pl130_3 : place Try.prog 130 3 = some (3, 1) := by kernel_rfl
theorem ft130_3 : ftype Try.prog 130 3 = some 9 := by kernel_rfl
theorem ag131 : isAggT Try.prog 131 = true := by kernel_rfl
theorem sz131 : szT Try.prog 131 = some 0 := by kernel_rfl
theorem zt131 : zeroT Try.prog 131 = some (.agg #[]) := by kernel_rfl
theorem ag132 : isAggT Try.prog 132 = true := by kernel_rfl
theorem sz132 : szT Try.prog 132 = some 0 := by kernel_rfl
theorem zt132 : zeroT Try.prog 132 = some (.agg #[]) := by kernel_rfl
theorem sd132 : sized Try.prog 132 = true := by kernel_rfl
theorem pl132_0 : place Try.prog 132 0 = some (0, 0) := by kernel_rfl
theorem ft132_0 : ftype Try.prog 132 0 = some 131 := by kernel_rfl
theorem ag133 : isAggT Try.prog 133 = true := by kernel_rfl
theorem sz133 : szT Try.prog 133 = some 0 := by kernel_rfl
theorem zt133 : zeroT Try.prog 133 = some (.agg #[]) := by kernel_rfl
theorem sd133 : sized Try.prog 133 = true := by kernel_rfl
theorem pl133_0 : place Try.prog 133 0 = some (0, 0) := by kernel_rfl
theorem ft133_0 : ftype Try.prog 133 0 = some 131 := by kernel_rfl
theorem ag134 : isAggT Try.prog 134 = false := by kernel_rfl
theorem sz134 : szT Try.prog 134 = some 1 := by kernel_rfl
theorem kn134 : knownT Try.prog 134 = true := by kernel_rfl
theorem zt134 : zeroT Try.prog 134 = some (.int .u32 0) := by kernel_rfl
theorem ag135 : isAggT Try.prog 135 = false := by kernel_rfl
theorem sz135 : szT Try.prog 135 = some 1 := by kernel_rfl
theorem kn135 : knownT Try.prog 135 = true := by kernel_rfl
theorem zt135 : zeroT Try.prog 135 = some (.int .u8 0) := by kernel_rfl
theorem ag136 : isAggT Try.prog 136 = false := by kernel_rfl
theorem sz136 : szT Try.prog 136 = some 1 := by kernel_rfl
theorem kn136 : knownT Try.prog 136 = true := by kernel_rfl
theorem zt136 : zeroT Try.prog 136 = some (.int .u8 0) := by kernel_rfl
theorem ag137 : isAggT Try.prog 137 = false := by kernel_rfl
theorem sz137 : szT Try.prog 137 = some 1 := by kernel_rfl
theorem kn137 : knownT Try.prog 137 = true := by kernel_rfl
theorem zt137 : zeroT Try.prog 137 = some (.nilFunc) := by kernel_rfl
theorem ag138 : isAggT Try.prog 138 = false := by kernel_rfl
theorem sz138 : szT Try.prog 138 = some 1 := by kernel_rfl
theorem kn138 : knownT Try.prog 138 = true := by kernel_rfl
theorem zt138 : zeroT Try.prog 138 = some (.int .i32 0) := by kernel_rfl
theorem ag139 : isAggT Try.prog 139 = false := by kernel_rfl
theorem sz139 : szT Try.prog 139 = some 1 := by kernel_rfl
theorem kn139 : knownT Try.prog 139 = true := by kernel_rfl
theorem zt139 : zeroT Try.prog 139 = some (.int .i32 0) := by kernel_rfl
theorem ag140 : isAggT Try.prog 140 = true := by kernel_rfl
theorem sz140 : szT Try.prog 140 = some 11 := by kernel_rfl
theorem zt140 : zeroT Try.prog 140 = some (.agg #[.int .u64 0, .int .u64 0, .int .u32 0, .int .u8 0, .int .u8 0, .int .u8 0, .int .u8 0, .nilFunc, .pointer none, .int .i32 0, .int .i32 0]) := by kernel_rfl
theorem sd140 : sized Try.prog 140 = true := by kernel_rfl
theorem pl140_0 : place Try.prog 140 0 = some (0, 1) := by kernel_rfl
theorem ft140_0 : ftype Try.prog 140 0 = some 12 := by kernel_rfl
theorem pl140_1 : place Try.prog 140 1 = some (1, 1) := by kernel_rfl
theorem ft140_1 : ftype Try.prog 140 1 = some 12 := by kernel_rfl
theorem pl140_2 : place Try.prog 140 2 = some (2, 1) := by kernel_rfl
theorem ft140_2 : ftype Try.prog 140 2 = some 134 := by kernel_rfl
theorem pl140_3 : place Try.prog 140 3 = some (3, 1) := by kernel_rfl
theorem ft140_3 : ftype Try.prog 140 3 = some 135 := by kernel_rfl
theorem pl140_4 : place Try.prog 140 4 = some (4, 1) := by kernel_rfl
theorem ft140_4 : ftype Try.prog 140 4 = some 5 := by kernel_rfl
theorem pl140_5 : place Try.prog 140 5 = some (5, 1) := by kernel_rfl
theorem ft140_5 : ftype Try.prog 140 5 = some 5 := by kernel_rfl
theorem pl140_6 : place Try.prog 140 6 = some (6, 1) := by kernel_rfl
theorem ft140_6 : ftype Try.prog 140 6 = some 136 := by kernel_rfl
theorem pl140_7 : place Try.prog 140 7 = some (7, 1) := by kernel_rfl
theorem ft140_7 : ftype Try.prog 140 7 = some 137 := by kernel_rfl
theorem pl140_8 : place Try.prog 140 8 = some (8, 1) := by kernel_rfl
theorem ft140_8 : ftype Try.prog 140 8 = some 126 := by kernel_rfl
theorem pl140_9 : place Try.prog 140 9 = some (9, 1) := by kernel_rfl
theorem ft140_9 : ftype Try.prog 140 9 = some 138 := by kernel_rfl
theorem pl140_10 : place Try.prog 140 10 = some (10, 1) := by kernel_rfl
theorem ft140_10 : ftype Try.prog 140 10 = some 139 := by kernel_rfl
theorem ag141 : isAggT Try.prog 141 = true := by kernel_rfl
theorem sz141 : szT Try.prog 141 = some 11 := by kernel_rfl
theorem zt141 : zeroT Try.prog 141 = some (.agg #[.int .u64 0, .int .u64 0, .int .u32 0, .int .u8 0, .int .u8 0, .int .u8 0, .int .u8 0, .nilFunc, .pointer none, .int .i32 0, .int .i32 0]) := by kernel_rfl
theorem sd141 : sized Try.prog 141 = true := by kernel_rfl
theorem pl141_0 : place Try.prog 141 0 = some (0, 1) := by kernel_rfl
theorem ft141_0 : ftype Try.prog 141 0 = some 12 := by kernel_rfl
theorem pl141_1 : place Try.prog 141 1 = some (1, 1) := by kernel_rfl
theorem ft141_1 : ftype Try.prog 141 1 = some 12 := by kernel_rfl
theorem pl141_2 : place Try.prog 141 2 = some (2, 1) := by kernel_rfl
theorem ft141_2 : ftype Try.prog 141 2 = some 134 := by kernel_rfl
theorem pl141_3 : place Try.prog 141 3 = some (3, 1) := by kernel_rfl
theorem ft141_3 : ftype Try.prog 141 3 = some 135 := by kernel_rfl
theorem pl141_4 : place Try.prog 141 4 = some (4, 1) := by kernel_rfl
theorem ft141_4 : ftype Try.prog 141 4 = some 5 := by kernel_rfl
theorem pl141_5 : place Try.prog 141 5 = some (5, 1) := by kernel_rfl
theorem ft141_5 : ftype Try.prog 141 5 = some 5 := by kernel_rfl
theorem pl141_6 : place Try.prog 141 6 = some (6, 1) := by kernel_rfl
theorem ft141_6 : ftype Try.prog 141 6 = some 136 := by kernel_rfl
theorem pl141_7 : place Try.prog 141 7 = some (7, 1) := by kernel_rfl
theorem ft141_7 : ftype Try.prog 141 7 = some 137 := by kernel_rfl
theorem pl141_8 : place Try.prog 141 8 = some (8, 1) := by kernel_rfl
theorem ft141_8 : ftype Try.prog 141 8 = some 126 := by kernel_rfl
theorem pl141_9 : place Try.prog 141 9 = some (9, 1) := by kernel_rfl
theorem ft141_9 : ftype Try.prog 141 9 = some 138 := by kernel_rfl
theorem pl141_10 : place Try.prog 141 10 = some (10, 1) := by kernel_rfl
theorem ft141_10 : ftype Try.prog 141 10 = some 139 := by kernel_rfl
theorem ld0 (H : Hp) (a : Addr) : aload Try.prog 0 (.pointer (some a)) H = cellAt H a := aload_cell ag0 kn0 a
theorem ap0 (cs : Array Value) (off : Nat) : apart Try.prog 0 cs off = cs[off]? := apart_cell ag0 kn0 cs off
theorem so0 (H : Hp) (b off : Nat) (x : Value) : astore Try.prog 0 (.pointer (some ⟨b, off, none⟩)) x H = match H.get b with | .cells true e c => (if x.cells.size = 1 ∧ isTup x = false ∧ off + 1 ≤ c.length then some (H.put b (.cells true e (setAll c off x.cells.toList))) else none) | _ => none := astore_sz sz0 b off x
theorem ld1 (H : Hp) (a : Addr) : aload Try.prog 1 (.pointer (some a)) H = cellAt H a := aload_cell ag1 kn1 a
theorem ap1 (cs : Array Value) (off : Nat) : apart Try.prog 1 cs off = cs[off]? := apart_cell ag1 kn1 cs off
theorem so1 (H : Hp) (b off : Nat) (x : Value) : astore Try.prog 1 (.pointer (some ⟨b, off, none⟩)) x H = match H.get b with | .cells true e c => (if x.cells.size = 1 ∧ isTup x = false ∧ off + 1 ≤ c.length then some (H.put b (.cells true e (setAll c off x.cells.toList))) else none) | _ => none := astore_sz sz1 b off x
theorem al1 (X : Outer) (ops : Array Oper) (dd : Option Tmp) (ty : TypeId) (pos : String) (af : Array Edge) (e : Env) (H : Hp) (K : Value → Hp → Prop) : Step Try.prog X ops ⟨dd, .alloc 1, ty, pos, af, none⟩ e H K = K (.pointer (some ⟨H.next, 0, none⟩)) (H.push (.cells true 1 [.nilFunc])) := Step_alloc zt1 rfl
theorem ld2 (H : Hp) (a : Addr) : aload Try.prog 2 (.pointer (some a)) H = cellAt H a := aload_cell ag2 kn2 a
theorem ap2 (cs : Array Value) (off : Nat) : apart Try.prog 2 cs off = cs[off]? := apart_cell ag2 kn2 cs off
theorem so2 (H : Hp) (b off : Nat) (x : Value) : astore Try.prog 2 (.pointer (some ⟨b, off, none⟩)) x H = match H.get b with | .cells true e c => (if x.cells.size = 1 ∧ isTup x = false ∧ off + 1 ≤ c.length then some (H.put b (.cells true e (setAll c off x.cells.toList))) else none) | _ => none := astore_sz sz2 b off x
theorem al2 (X : Outer) (ops : Array Oper) (dd : Option Tmp) (ty : TypeId) (pos : String) (af : Array Edge) (e : Env) (H : Hp) (K : Value → Hp → Prop) : Step Try.prog X ops ⟨dd, .alloc 2, ty, pos, af, none⟩ e H K = K (.pointer (some ⟨H.next, 0, none⟩)) (H.push (.cells true 2 [.int .i64 0])) := Step_alloc zt2 rfl
theorem ld3 (H : Hp) (a : Addr) : aload Try.prog 3 (.pointer (some a)) H = cellAt H a := aload_cell ag3 kn3 a
theorem ap3 (cs : Array Value) (off : Nat) : apart Try.prog 3 cs off = cs[off]? := apart_cell ag3 kn3 cs off
theorem so3 (H : Hp) (b off : Nat) (x : Value) : astore Try.prog 3 (.pointer (some ⟨b, off, none⟩)) x H = match H.get b with | .cells true e c => (if x.cells.size = 1 ∧ isTup x = false ∧ off + 1 ≤ c.length then some (H.put b (.cells true e (setAll c off x.cells.toList))) else none) | _ => none := astore_sz sz3 b off x
theorem al3 (X : Outer) (ops : Array Oper) (dd : Option Tmp) (ty : TypeId) (pos : String) (af : Array Edge) (e : Env) (H : Hp) (K : Value → Hp → Prop) : Step Try.prog X ops ⟨dd, .alloc 3, ty, pos, af, none⟩ e H K = K (.pointer (some ⟨H.next, 0, none⟩)) (H.push (.cells true 3 [.int .i64 0])) := Step_alloc zt3 rfl
theorem ld4 (H : Hp) (a : Addr) : aload Try.prog 4 (.pointer (some a)) H = cellAt H a := aload_cell ag4 kn4 a
theorem ap4 (cs : Array Value) (off : Nat) : apart Try.prog 4 cs off = cs[off]? := apart_cell ag4 kn4 cs off
theorem so4 (H : Hp) (b off : Nat) (x : Value) : astore Try.prog 4 (.pointer (some ⟨b, off, none⟩)) x H = match H.get b with | .cells true e c => (if x.cells.size = 1 ∧ isTup x = false ∧ off + 1 ≤ c.length then some (H.put b (.cells true e (setAll c off x.cells.toList))) else none) | _ => none := astore_sz sz4 b off x
theorem al4 (X : Outer) (ops : Array Oper) (dd : Option Tmp) (ty : TypeId) (pos : String) (af : Array Edge) (e : Env) (H : Hp) (K : Value → Hp → Prop) : Step Try.prog X ops ⟨dd, .alloc 4, ty, pos, af, none⟩ e H K = K (.pointer (some ⟨H.next, 0, none⟩)) (H.push (.cells true 4 [.bool false])) := Step_alloc zt4 rfl
theorem ld5 (H : Hp) (a : Addr) : aload Try.prog 5 (.pointer (some a)) H = cellAt H a := aload_cell ag5 kn5 a
theorem ap5 (cs : Array Value) (off : Nat) : apart Try.prog 5 cs off = cs[off]? := apart_cell ag5 kn5 cs off
theorem so5 (H : Hp) (b off : Nat) (x : Value) : astore Try.prog 5 (.pointer (some ⟨b, off, none⟩)) x H = match H.get b with | .cells true e c => (if x.cells.size = 1 ∧ isTup x = false ∧ off + 1 ≤ c.length then some (H.put b (.cells true e (setAll c off x.cells.toList))) else none) | _ => none := astore_sz sz5 b off x
theorem al5 (X : Outer) (ops : Array Oper) (dd : Option Tmp) (ty : TypeId) (pos : String) (af : Array Edge) (e : Env) (H : Hp) (K : Value → Hp → Prop) : Step Try.prog X ops ⟨dd, .alloc 5, ty, pos, af, none⟩ e H K = K (.pointer (some ⟨H.next, 0, none⟩)) (H.push (.cells true 5 [.int .u8 0])) := Step_alloc zt5 rfl
theorem ld6 (H : Hp) (a : Addr) : aload Try.prog 6 (.pointer (some a)) H = cellAt H a := aload_cell ag6 kn6 a
theorem ap6 (cs : Array Value) (off : Nat) : apart Try.prog 6 cs off = cs[off]? := apart_cell ag6 kn6 cs off
theorem so6 (H : Hp) (b off : Nat) (x : Value) : astore Try.prog 6 (.pointer (some ⟨b, off, none⟩)) x H = match H.get b with | .cells true e c => (if x.cells.size = 1 ∧ isTup x = false ∧ off + 1 ≤ c.length then some (H.put b (.cells true e (setAll c off x.cells.toList))) else none) | _ => none := astore_sz sz6 b off x
theorem al6 (X : Outer) (ops : Array Oper) (dd : Option Tmp) (ty : TypeId) (pos : String) (af : Array Edge) (e : Env) (H : Hp) (K : Value → Hp → Prop) : Step Try.prog X ops ⟨dd, .alloc 6, ty, pos, af, none⟩ e H K = K (.pointer (some ⟨H.next, 0, none⟩)) (H.push (.cells true 6 [.int .u8 0])) := Step_alloc zt6 rfl
theorem ld7 (H : Hp) (a : Addr) : aload Try.prog 7 (.pointer (some a)) H = (cellsAt H a 4).map fun c => .agg c.toArray := aload_agg ag7 sz7 a
theorem ap7 (cs : Array Value) (off : Nat) : apart Try.prog 7 cs off = if off + 4 ≤ cs.size then some (.agg (cs.extract off (off + 4))) else none := apart_agg ag7 sz7 cs off
theorem so7 (H : Hp) (b off : Nat) (x : Value) : astore Try.prog 7 (.pointer (some ⟨b, off, none⟩)) x H = match H.get b with | .cells true e c => (if x.cells.size = 4 ∧ isTup x = false ∧ off + 4 ≤ c.length then some (H.put b (.cells true e (setAll c off x.cells.toList))) else none) | _ => none := astore_sz sz7 b off x
theorem al7 (X : Outer) (ops : Array Oper) (dd : Option Tmp) (ty : TypeId) (pos : String) (af : Array Edge) (e : Env) (H : Hp) (K : Value → Hp → Prop) : Step Try.prog X ops ⟨dd, .alloc 7, ty, pos, af, none⟩ e H K = K (.pointer (some ⟨H.next, 0, none⟩)) (H.push (.cells true 7 [.int .i64 0, .int .i64 0, .bool false, .int .u8 0])) := Step_alloc zt7 rfl
theorem fa7_0 (ρ : Operand → Value) (H : Hp) (x : Operand) : lop Try.prog ρ H (.fieldAddr 7 x 0) = match ρ x with | .pointer (some a) => (if a.spot = none then some (.pointer (some ⟨a.block, a.off + 0, none⟩)) else none) | _ => none := lop_fieldAddr x 0 0 1 pl7_0 (by decide)
theorem fd7_0 (ρ : Operand → Value) (H : Hp) (x : Operand) : lop Try.prog ρ H (.field 7 x 0) = match ρ x with | .agg cs => apart Try.prog 2 cs 0 | _ => none := lop_field x 0 0 1 2 pl7_0 ft7_0
theorem fa7_1 (ρ : Operand → Value) (H : Hp) (x : Operand) : lop Try.prog ρ H (.fieldAddr 7 x 1) = match ρ x with | .pointer (some a) => (if a.spot = none then some (.pointer (some ⟨a.block, a.off + 1, none⟩)) else none) | _ => none := lop_fieldAddr x 1 1 1 pl7_1 (by decide)
theorem fd7_1 (ρ : Operand → Value) (H : Hp) (x : Operand) : lop Try.prog ρ H (.field 7 x 1) = match ρ x with | .agg cs => apart Try.prog 3 cs 1 | _ => none := lop_field x 1 1 1 3 pl7_1 ft7_1
theorem fa7_2 (ρ : Operand → Value) (H : Hp) (x : Operand) : lop Try.prog ρ H (.fieldAddr 7 x 2) = match ρ x with | .pointer (some a) => (if a.spot = none then some (.pointer (some ⟨a.block, a.off + 2, none⟩)) else none) | _ => none := lop_fieldAddr x 2 2 1 pl7_2 (by decide)
theorem fd7_2 (ρ : Operand → Value) (H : Hp) (x : Operand) : lop Try.prog ρ H (.field 7 x 2) = match ρ x with | .agg cs => apart Try.prog 4 cs 2 | _ => none := lop_field x 2 2 1 4 pl7_2 ft7_2
theorem fa7_3 (ρ : Operand → Value) (H : Hp) (x : Operand) : lop Try.prog ρ H (.fieldAddr 7 x 3) = match ρ x with | .pointer (some a) => (if a.spot = none then some (.pointer (some ⟨a.block, a.off + 3, none⟩)) else none) | _ => none := lop_fieldAddr x 3 3 1 pl7_3 (by decide)
theorem fd7_3 (ρ : Operand → Value) (H : Hp) (x : Operand) : lop Try.prog ρ H (.field 7 x 3) = match ρ x with | .agg cs => apart Try.prog 6 cs 3 | _ => none := lop_field x 3 3 1 6 pl7_3 ft7_3
theorem bd7 (ρ : Operand → Value) (H : Hp) (parts : Array (Nat × Operand)) : lop Try.prog ρ H (.build 7 parts) = if parts.toList.all (fun p => !isTup (ρ p.2)) then (afill (place Try.prog 7) (Value.cells (.agg #[.int .i64 0, .int .i64 0, .bool false, .int .u8 0])).toList (parts.toList.map fun p => (p.1, ρ p.2))).map fun cs => .agg cs.toArray else none := lop_build parts _ zt7 sd7 rfl
theorem ld8 (H : Hp) (a : Addr) : aload Try.prog 8 (.pointer (some a)) H = (cellsAt H a 4).map fun c => .agg c.toArray := aload_agg ag8 sz8 a
theorem ap8 (cs : Array Value) (off : Nat) : apart Try.prog 8 cs off = if off + 4 ≤ cs.size then some (.agg (cs.extract off (off + 4))) else none := apart_agg ag8 sz8 cs off
theorem so8 (H : Hp) (b off : Nat) (x : Value) : astore Try.prog 8 (.pointer (some ⟨b, off, none⟩)) x H = match H.get b with | .cells true e c => (if x.cells.size = 4 ∧ isTup x = false ∧ off + 4 ≤ c.length then some (H.put b (.cells true e (setAll c off x.cells.toList))) else none) | _ => none := astore_sz sz8 b off x
theorem al8 (X : Outer) (ops : Array Oper) (dd : Option Tmp) (ty : TypeId) (pos : String) (af : Array Edge) (e : Env) (H : Hp) (K : Value → Hp → Prop) : Step Try.prog X ops ⟨dd, .alloc 8, ty, pos, af, none⟩ e H K = K (.pointer (some ⟨H.next, 0, none⟩)) (H.push (.cells true 8 [.int .i64 0, .int .i64 0, .bool false, .int .u8 0])) := Step_alloc zt8 rfl
theorem fa8_0 (ρ : Operand → Value) (H : Hp) (x : Operand) : lop Try.prog ρ H (.fieldAddr 8 x 0) = match ρ x with | .pointer (some a) => (if a.spot = none then some (.pointer (some ⟨a.block, a.off + 0, none⟩)) else none) | _ => none := lop_fieldAddr x 0 0 1 pl8_0 (by decide)
theorem fd8_0 (ρ : Operand → Value) (H : Hp) (x : Operand) : lop Try.prog ρ H (.field 8 x 0) = match ρ x with | .agg cs => apart Try.prog 2 cs 0 | _ => none := lop_field x 0 0 1 2 pl8_0 ft8_0
theorem fa8_1 (ρ : Operand → Value) (H : Hp) (x : Operand) : lop Try.prog ρ H (.fieldAddr 8 x 1) = match ρ x with | .pointer (some a) => (if a.spot = none then some (.pointer (some ⟨a.block, a.off + 1, none⟩)) else none) | _ => none := lop_fieldAddr x 1 1 1 pl8_1 (by decide)
theorem fd8_1 (ρ : Operand → Value) (H : Hp) (x : Operand) : lop Try.prog ρ H (.field 8 x 1) = match ρ x with | .agg cs => apart Try.prog 3 cs 1 | _ => none := lop_field x 1 1 1 3 pl8_1 ft8_1
theorem fa8_2 (ρ : Operand → Value) (H : Hp) (x : Operand) : lop Try.prog ρ H (.fieldAddr 8 x 2) = match ρ x with | .pointer (some a) => (if a.spot = none then some (.pointer (some ⟨a.block, a.off + 2, none⟩)) else none) | _ => none := lop_fieldAddr x 2 2 1 pl8_2 (by decide)
theorem fd8_2 (ρ : Operand → Value) (H : Hp) (x : Operand) : lop Try.prog ρ H (.field 8 x 2) = match ρ x with | .agg cs => apart Try.prog 4 cs 2 | _ => none := lop_field x 2 2 1 4 pl8_2 ft8_2
theorem fa8_3 (ρ : Operand → Value) (H : Hp) (x : Operand) : lop Try.prog ρ H (.fieldAddr 8 x 3) = match ρ x with | .pointer (some a) => (if a.spot = none then some (.pointer (some ⟨a.block, a.off + 3, none⟩)) else none) | _ => none := lop_fieldAddr x 3 3 1 pl8_3 (by decide)
theorem fd8_3 (ρ : Operand → Value) (H : Hp) (x : Operand) : lop Try.prog ρ H (.field 8 x 3) = match ρ x with | .agg cs => apart Try.prog 6 cs 3 | _ => none := lop_field x 3 3 1 6 pl8_3 ft8_3
theorem bd8 (ρ : Operand → Value) (H : Hp) (parts : Array (Nat × Operand)) : lop Try.prog ρ H (.build 8 parts) = if parts.toList.all (fun p => !isTup (ρ p.2)) then (afill (place Try.prog 8) (Value.cells (.agg #[.int .i64 0, .int .i64 0, .bool false, .int .u8 0])).toList (parts.toList.map fun p => (p.1, ρ p.2))).map fun cs => .agg cs.toArray else none := lop_build parts _ zt8 sd8 rfl
theorem ld9 (H : Hp) (a : Addr) : aload Try.prog 9 (.pointer (some a)) H = cellAt H a := aload_cell ag9 kn9 a
theorem ap9 (cs : Array Value) (off : Nat) : apart Try.prog 9 cs off = cs[off]? := apart_cell ag9 kn9 cs off
theorem so9 (H : Hp) (b off : Nat) (x : Value) : astore Try.prog 9 (.pointer (some ⟨b, off, none⟩)) x H = match H.get b with | .cells true e c => (if x.cells.size = 1 ∧ isTup x = false ∧ off + 1 ≤ c.length then some (H.put b (.cells true e (setAll c off x.cells.toList))) else none) | _ => none := astore_sz sz9 b off x
theorem al9 (X : Outer) (ops : Array Oper) (dd : Option Tmp) (ty : TypeId) (pos : String) (af : Array Edge) (e : Env) (H : Hp) (K : Value → Hp → Prop) : Step Try.prog X ops ⟨dd, .alloc 9, ty, pos, af, none⟩ e H K = K (.pointer (some ⟨H.next, 0, none⟩)) (H.push (.cells true 9 [.string .empty])) := Step_alloc zt9 rfl
theorem ln9 (H : Hp) (s : ByteArray) : alen Try.prog 9 (.string s) H = some (.int .i64 s.size) := alen_str Try.underlying9 s
theorem sl9 (s : ByteArray) (lo hi : Option Value) : aslice Try.prog 9 (.string s) lo hi none = (abound hi s.size).bind fun h => (abound lo 0).bind fun l => if 0 ≤ l ∧ l ≤ h ∧ h ≤ s.size then some (.string (s.extract l.toNat h.toNat)) else none := aslice_str Try.underlying9 s lo hi
theorem ix9 (s : ByteArray) (k : IntKind) (j : Int) : aindex Try.prog 9 (.string s) (.int k j) = if 0 ≤ j then (s[j.toNat]?).map fun b => .int .u8 b.toNat else none := aindex_str Try.underlying9 s k j
theorem ld10 (H : Hp) (a : Addr) : aload Try.prog 10 (.pointer (some a)) H = cellAt H a := aload_cell ag10 kn10 a
theorem ap10 (cs : Array Value) (off : Nat) : apart Try.prog 10 cs off = cs[off]? := apart_cell ag10 kn10 cs off
theorem so10 (H : Hp) (b off : Nat) (x : Value) : astore Try.prog 10 (.pointer (some ⟨b, off, none⟩)) x H = match H.get b with | .cells true e c => (if x.cells.size = 1 ∧ isTup x = false ∧ off + 1 ≤ c.length then some (H.put b (.cells true e (setAll c off x.cells.toList))) else none) | _ => none := astore_sz sz10 b off x
theorem al10 (X : Outer) (ops : Array Oper) (dd : Option Tmp) (ty : TypeId) (pos : String) (af : Array Edge) (e : Env) (H : Hp) (K : Value → Hp → Prop) : Step Try.prog X ops ⟨dd, .alloc 10, ty, pos, af, none⟩ e H K = K (.pointer (some ⟨H.next, 0, none⟩)) (H.push (.cells true 10 [.string .empty])) := Step_alloc zt10 rfl
theorem ln10 (H : Hp) (s : ByteArray) : alen Try.prog 10 (.string s) H = some (.int .i64 s.size) := alen_str Try.underlying10 s
theorem sl10 (s : ByteArray) (lo hi : Option Value) : aslice Try.prog 10 (.string s) lo hi none = (abound hi s.size).bind fun h => (abound lo 0).bind fun l => if 0 ≤ l ∧ l ≤ h ∧ h ≤ s.size then some (.string (s.extract l.toNat h.toNat)) else none := aslice_str Try.underlying10 s lo hi
theorem ix10 (s : ByteArray) (k : IntKind) (j : Int) : aindex Try.prog 10 (.string s) (.int k j) = if 0 ≤ j then (s[j.toNat]?).map fun b => .int .u8 b.toNat else none := aindex_str Try.underlying10 s k j
theorem ld11 (H : Hp) (a : Addr) : aload Try.prog 11 (.pointer (some a)) H = cellAt H a := aload_cell ag11 kn11 a
theorem ap11 (cs : Array Value) (off : Nat) : apart Try.prog 11 cs off = cs[off]? := apart_cell ag11 kn11 cs off
theorem so11 (H : Hp) (b off : Nat) (x : Value) : astore Try.prog 11 (.pointer (some ⟨b, off, none⟩)) x H = match H.get b with | .cells true e c => (if x.cells.size = 1 ∧ isTup x = false ∧ off + 1 ≤ c.length then some (H.put b (.cells true e (setAll c off x.cells.toList))) else none) | _ => none := astore_sz sz11 b off x
theorem al11 (X : Outer) (ops : Array Oper) (dd : Option Tmp) (ty : TypeId) (pos : String) (af : Array Edge) (e : Env) (H : Hp) (K : Value → Hp → Prop) : Step Try.prog X ops ⟨dd, .alloc 11, ty, pos, af, none⟩ e H K = K (.pointer (some ⟨H.next, 0, none⟩)) (H.push (.cells true 11 [.string .empty])) := Step_alloc zt11 rfl
theorem ln11 (H : Hp) (s : ByteArray) : alen Try.prog 11 (.string s) H = some (.int .i64 s.size) := alen_str Try.underlying11 s
theorem sl11 (s : ByteArray) (lo hi : Option Value) : aslice Try.prog 11 (.string s) lo hi none = (abound hi s.size).bind fun h => (abound lo 0).bind fun l => if 0 ≤ l ∧ l ≤ h ∧ h ≤ s.size then some (.string (s.extract l.toNat h.toNat)) else none := aslice_str Try.underlying11 s lo hi
theorem ix11 (s : ByteArray) (k : IntKind) (j : Int) : aindex Try.prog 11 (.string s) (.int k j) = if 0 ≤ j then (s[j.toNat]?).map fun b => .int .u8 b.toNat else none := aindex_str Try.underlying11 s k j
theorem ld12 (H : Hp) (a : Addr) : aload Try.prog 12 (.pointer (some a)) H = cellAt H a := aload_cell ag12 kn12 a
theorem ap12 (cs : Array Value) (off : Nat) : apart Try.prog 12 cs off = cs[off]? := apart_cell ag12 kn12 cs off
theorem so12 (H : Hp) (b off : Nat) (x : Value) : astore Try.prog 12 (.pointer (some ⟨b, off, none⟩)) x H = match H.get b with | .cells true e c => (if x.cells.size = 1 ∧ isTup x = false ∧ off + 1 ≤ c.length then some (H.put b (.cells true e (setAll c off x.cells.toList))) else none) | _ => none := astore_sz sz12 b off x
theorem al12 (X : Outer) (ops : Array Oper) (dd : Option Tmp) (ty : TypeId) (pos : String) (af : Array Edge) (e : Env) (H : Hp) (K : Value → Hp → Prop) : Step Try.prog X ops ⟨dd, .alloc 12, ty, pos, af, none⟩ e H K = K (.pointer (some ⟨H.next, 0, none⟩)) (H.push (.cells true 12 [.int .u64 0])) := Step_alloc zt12 rfl
theorem ld13 (H : Hp) (a : Addr) : aload Try.prog 13 (.pointer (some a)) H = (cellsAt H a 2).map fun c => .agg c.toArray := aload_agg ag13 sz13 a
theorem ap13 (cs : Array Value) (off : Nat) : apart Try.prog 13 cs off = if off + 2 ≤ cs.size then some (.agg (cs.extract off (off + 2))) else none := apart_agg ag13 sz13 cs off
theorem so13 (H : Hp) (b off : Nat) (x : Value) : astore Try.prog 13 (.pointer (some ⟨b, off, none⟩)) x H = match H.get b with | .cells true e c => (if x.cells.size = 2 ∧ isTup x = false ∧ off + 2 ≤ c.length then some (H.put b (.cells true e (setAll c off x.cells.toList))) else none) | _ => none := astore_sz sz13 b off x
theorem al13 (X : Outer) (ops : Array Oper) (dd : Option Tmp) (ty : TypeId) (pos : String) (af : Array Edge) (e : Env) (H : Hp) (K : Value → Hp → Prop) : Step Try.prog X ops ⟨dd, .alloc 13, ty, pos, af, none⟩ e H K = K (.pointer (some ⟨H.next, 0, none⟩)) (H.push (.cells true 13 [.string .empty, .int .u64 0])) := Step_alloc zt13 rfl
theorem fa13_0 (ρ : Operand → Value) (H : Hp) (x : Operand) : lop Try.prog ρ H (.fieldAddr 13 x 0) = match ρ x with | .pointer (some a) => (if a.spot = none then some (.pointer (some ⟨a.block, a.off + 0, none⟩)) else none) | _ => none := lop_fieldAddr x 0 0 1 pl13_0 (by decide)
theorem fd13_0 (ρ : Operand → Value) (H : Hp) (x : Operand) : lop Try.prog ρ H (.field 13 x 0) = match ρ x with | .agg cs => apart Try.prog 9 cs 0 | _ => none := lop_field x 0 0 1 9 pl13_0 ft13_0
theorem fa13_1 (ρ : Operand → Value) (H : Hp) (x : Operand) : lop Try.prog ρ H (.fieldAddr 13 x 1) = match ρ x with | .pointer (some a) => (if a.spot = none then some (.pointer (some ⟨a.block, a.off + 1, none⟩)) else none) | _ => none := lop_fieldAddr x 1 1 1 pl13_1 (by decide)
theorem fd13_1 (ρ : Operand → Value) (H : Hp) (x : Operand) : lop Try.prog ρ H (.field 13 x 1) = match ρ x with | .agg cs => apart Try.prog 12 cs 1 | _ => none := lop_field x 1 1 1 12 pl13_1 ft13_1
theorem bd13 (ρ : Operand → Value) (H : Hp) (parts : Array (Nat × Operand)) : lop Try.prog ρ H (.build 13 parts) = if parts.toList.all (fun p => !isTup (ρ p.2)) then (afill (place Try.prog 13) (Value.cells (.agg #[.string .empty, .int .u64 0])).toList (parts.toList.map fun p => (p.1, ρ p.2))).map fun cs => .agg cs.toArray else none := lop_build parts _ zt13 sd13 rfl
theorem ld14 (H : Hp) (a : Addr) : aload Try.prog 14 (.pointer (some a)) H = (cellsAt H a 2).map fun c => .agg c.toArray := aload_agg ag14 sz14 a
theorem ap14 (cs : Array Value) (off : Nat) : apart Try.prog 14 cs off = if off + 2 ≤ cs.size then some (.agg (cs.extract off (off + 2))) else none := apart_agg ag14 sz14 cs off
theorem so14 (H : Hp) (b off : Nat) (x : Value) : astore Try.prog 14 (.pointer (some ⟨b, off, none⟩)) x H = match H.get b with | .cells true e c => (if x.cells.size = 2 ∧ isTup x = false ∧ off + 2 ≤ c.length then some (H.put b (.cells true e (setAll c off x.cells.toList))) else none) | _ => none := astore_sz sz14 b off x
theorem al14 (X : Outer) (ops : Array Oper) (dd : Option Tmp) (ty : TypeId) (pos : String) (af : Array Edge) (e : Env) (H : Hp) (K : Value → Hp → Prop) : Step Try.prog X ops ⟨dd, .alloc 14, ty, pos, af, none⟩ e H K = K (.pointer (some ⟨H.next, 0, none⟩)) (H.push (.cells true 14 [.string .empty, .int .u64 0])) := Step_alloc zt14 rfl
theorem fa14_0 (ρ : Operand → Value) (H : Hp) (x : Operand) : lop Try.prog ρ H (.fieldAddr 14 x 0) = match ρ x with | .pointer (some a) => (if a.spot = none then some (.pointer (some ⟨a.block, a.off + 0, none⟩)) else none) | _ => none := lop_fieldAddr x 0 0 1 pl14_0 (by decide)
theorem fd14_0 (ρ : Operand → Value) (H : Hp) (x : Operand) : lop Try.prog ρ H (.field 14 x 0) = match ρ x with | .agg cs => apart Try.prog 9 cs 0 | _ => none := lop_field x 0 0 1 9 pl14_0 ft14_0
theorem fa14_1 (ρ : Operand → Value) (H : Hp) (x : Operand) : lop Try.prog ρ H (.fieldAddr 14 x 1) = match ρ x with | .pointer (some a) => (if a.spot = none then some (.pointer (some ⟨a.block, a.off + 1, none⟩)) else none) | _ => none := lop_fieldAddr x 1 1 1 pl14_1 (by decide)
theorem fd14_1 (ρ : Operand → Value) (H : Hp) (x : Operand) : lop Try.prog ρ H (.field 14 x 1) = match ρ x with | .agg cs => apart Try.prog 12 cs 1 | _ => none := lop_field x 1 1 1 12 pl14_1 ft14_1
theorem bd14 (ρ : Operand → Value) (H : Hp) (parts : Array (Nat × Operand)) : lop Try.prog ρ H (.build 14 parts) = if parts.toList.all (fun p => !isTup (ρ p.2)) then (afill (place Try.prog 14) (Value.cells (.agg #[.string .empty, .int .u64 0])).toList (parts.toList.map fun p => (p.1, ρ p.2))).map fun cs => .agg cs.toArray else none := lop_build parts _ zt14 sd14 rfl
theorem ld15 (H : Hp) (a : Addr) : aload Try.prog 15 (.pointer (some a)) H = cellAt H a := aload_cell ag15 kn15 a
theorem ap15 (cs : Array Value) (off : Nat) : apart Try.prog 15 cs off = cs[off]? := apart_cell ag15 kn15 cs off
theorem so15 (H : Hp) (b off : Nat) (x : Value) : astore Try.prog 15 (.pointer (some ⟨b, off, none⟩)) x H = match H.get b with | .cells true e c => (if x.cells.size = 1 ∧ isTup x = false ∧ off + 1 ≤ c.length then some (H.put b (.cells true e (setAll c off x.cells.toList))) else none) | _ => none := astore_sz sz15 b off x
theorem al15 (X : Outer) (ops : Array Oper) (dd : Option Tmp) (ty : TypeId) (pos : String) (af : Array Edge) (e : Env) (H : Hp) (K : Value → Hp → Prop) : Step Try.prog X ops ⟨dd, .alloc 15, ty, pos, af, none⟩ e H K = K (.pointer (some ⟨H.next, 0, none⟩)) (H.push (.cells true 15 [.pointer none])) := Step_alloc zt15 rfl
theorem ld16 (H : Hp) (a : Addr) : aload Try.prog 16 (.pointer (some a)) H = cellAt H a := aload_cell ag16 kn16 a
theorem ap16 (cs : Array Value) (off : Nat) : apart Try.prog 16 cs off = cs[off]? := apart_cell ag16 kn16 cs off
theorem so16 (H : Hp) (b off : Nat) (x : Value) : astore Try.prog 16 (.pointer (some ⟨b, off, none⟩)) x H = match H.get b with | .cells true e c => (if x.cells.size = 1 ∧ isTup x = false ∧ off + 1 ≤ c.length then some (H.put b (.cells true e (setAll c off x.cells.toList))) else none) | _ => none := astore_sz sz16 b off x
theorem al16 (X : Outer) (ops : Array Oper) (dd : Option Tmp) (ty : TypeId) (pos : String) (af : Array Edge) (e : Env) (H : Hp) (K : Value → Hp → Prop) : Step Try.prog X ops ⟨dd, .alloc 16, ty, pos, af, none⟩ e H K = K (.pointer (some ⟨H.next, 0, none⟩)) (H.push (.cells true 16 [.pointer none])) := Step_alloc zt16 rfl
theorem ld17 (H : Hp) (a : Addr) : aload Try.prog 17 (.pointer (some a)) H = cellAt H a := aload_cell ag17 kn17 a
theorem ap17 (cs : Array Value) (off : Nat) : apart Try.prog 17 cs off = cs[off]? := apart_cell ag17 kn17 cs off
theorem so17 (H : Hp) (b off : Nat) (x : Value) : astore Try.prog 17 (.pointer (some ⟨b, off, none⟩)) x H = match H.get b with | .cells true e c => (if x.cells.size = 1 ∧ isTup x = false ∧ off + 1 ≤ c.length then some (H.put b (.cells true e (setAll c off x.cells.toList))) else none) | _ => none := astore_sz sz17 b off x
theorem al17 (X : Outer) (ops : Array Oper) (dd : Option Tmp) (ty : TypeId) (pos : String) (af : Array Edge) (e : Env) (H : Hp) (K : Value → Hp → Prop) : Step Try.prog X ops ⟨dd, .alloc 17, ty, pos, af, none⟩ e H K = K (.pointer (some ⟨H.next, 0, none⟩)) (H.push (.cells true 17 [.pointer none])) := Step_alloc zt17 rfl
theorem ld18 (H : Hp) (a : Addr) : aload Try.prog 18 (.pointer (some a)) H = (cellsAt H a 1).map fun c => .agg c.toArray := aload_agg ag18 sz18 a
theorem ap18 (cs : Array Value) (off : Nat) : apart Try.prog 18 cs off = if off + 1 ≤ cs.size then some (.agg (cs.extract off (off + 1))) else none := apart_agg ag18 sz18 cs off
theorem so18 (H : Hp) (b off : Nat) (x : Value) : astore Try.prog 18 (.pointer (some ⟨b, off, none⟩)) x H = match H.get b with | .cells true e c => (if x.cells.size = 1 ∧ isTup x = false ∧ off + 1 ≤ c.length then some (H.put b (.cells true e (setAll c off x.cells.toList))) else none) | _ => none := astore_sz sz18 b off x
theorem al18 (X : Outer) (ops : Array Oper) (dd : Option Tmp) (ty : TypeId) (pos : String) (af : Array Edge) (e : Env) (H : Hp) (K : Value → Hp → Prop) : Step Try.prog X ops ⟨dd, .alloc 18, ty, pos, af, none⟩ e H K = K (.pointer (some ⟨H.next, 0, none⟩)) (H.push (.cells true 18 [.pointer none])) := Step_alloc zt18 rfl
theorem fa18_0 (ρ : Operand → Value) (H : Hp) (x : Operand) : lop Try.prog ρ H (.fieldAddr 18 x 0) = match ρ x with | .pointer (some a) => (if a.spot = none then some (.pointer (some ⟨a.block, a.off + 0, none⟩)) else none) | _ => none := lop_fieldAddr x 0 0 1 pl18_0 (by decide)
theorem fd18_0 (ρ : Operand → Value) (H : Hp) (x : Operand) : lop Try.prog ρ H (.field 18 x 0) = match ρ x with | .agg cs => apart Try.prog 17 cs 0 | _ => none := lop_field x 0 0 1 17 pl18_0 ft18_0
theorem bd18 (ρ : Operand → Value) (H : Hp) (parts : Array (Nat × Operand)) : lop Try.prog ρ H (.build 18 parts) = if parts.toList.all (fun p => !isTup (ρ p.2)) then (afill (place Try.prog 18) (Value.cells (.agg #[.pointer none])).toList (parts.toList.map fun p => (p.1, ρ p.2))).map fun cs => .agg cs.toArray else none := lop_build parts _ zt18 sd18 rfl
theorem ld19 (H : Hp) (a : Addr) : aload Try.prog 19 (.pointer (some a)) H = (cellsAt H a 1).map fun c => .agg c.toArray := aload_agg ag19 sz19 a
theorem ap19 (cs : Array Value) (off : Nat) : apart Try.prog 19 cs off = if off + 1 ≤ cs.size then some (.agg (cs.extract off (off + 1))) else none := apart_agg ag19 sz19 cs off
theorem so19 (H : Hp) (b off : Nat) (x : Value) : astore Try.prog 19 (.pointer (some ⟨b, off, none⟩)) x H = match H.get b with | .cells true e c => (if x.cells.size = 1 ∧ isTup x = false ∧ off + 1 ≤ c.length then some (H.put b (.cells true e (setAll c off x.cells.toList))) else none) | _ => none := astore_sz sz19 b off x
theorem al19 (X : Outer) (ops : Array Oper) (dd : Option Tmp) (ty : TypeId) (pos : String) (af : Array Edge) (e : Env) (H : Hp) (K : Value → Hp → Prop) : Step Try.prog X ops ⟨dd, .alloc 19, ty, pos, af, none⟩ e H K = K (.pointer (some ⟨H.next, 0, none⟩)) (H.push (.cells true 19 [.pointer none])) := Step_alloc zt19 rfl
theorem fa19_0 (ρ : Operand → Value) (H : Hp) (x : Operand) : lop Try.prog ρ H (.fieldAddr 19 x 0) = match ρ x with | .pointer (some a) => (if a.spot = none then some (.pointer (some ⟨a.block, a.off + 0, none⟩)) else none) | _ => none := lop_fieldAddr x 0 0 1 pl19_0 (by decide)
theorem fd19_0 (ρ : Operand → Value) (H : Hp) (x : Operand) : lop Try.prog ρ H (.field 19 x 0) = match ρ x with | .agg cs => apart Try.prog 17 cs 0 | _ => none := lop_field x 0 0 1 17 pl19_0 ft19_0
theorem bd19 (ρ : Operand → Value) (H : Hp) (parts : Array (Nat × Operand)) : lop Try.prog ρ H (.build 19 parts) = if parts.toList.all (fun p => !isTup (ρ p.2)) then (afill (place Try.prog 19) (Value.cells (.agg #[.pointer none])).toList (parts.toList.map fun p => (p.1, ρ p.2))).map fun cs => .agg cs.toArray else none := lop_build parts _ zt19 sd19 rfl
theorem ld20 (H : Hp) (a : Addr) : aload Try.prog 20 (.pointer (some a)) H = cellAt H a := aload_cell ag20 kn20 a
theorem ap20 (cs : Array Value) (off : Nat) : apart Try.prog 20 cs off = cs[off]? := apart_cell ag20 kn20 cs off
theorem so20 (H : Hp) (b off : Nat) (x : Value) : astore Try.prog 20 (.pointer (some ⟨b, off, none⟩)) x H = match H.get b with | .cells true e c => (if x.cells.size = 1 ∧ isTup x = false ∧ off + 1 ≤ c.length then some (H.put b (.cells true e (setAll c off x.cells.toList))) else none) | _ => none := astore_sz sz20 b off x
theorem al20 (X : Outer) (ops : Array Oper) (dd : Option Tmp) (ty : TypeId) (pos : String) (af : Array Edge) (e : Env) (H : Hp) (K : Value → Hp → Prop) : Step Try.prog X ops ⟨dd, .alloc 20, ty, pos, af, none⟩ e H K = K (.pointer (some ⟨H.next, 0, none⟩)) (H.push (.cells true 20 [.nilIface])) := Step_alloc zt20 rfl
theorem ld21 (H : Hp) (a : Addr) : aload Try.prog 21 (.pointer (some a)) H = cellAt H a := aload_cell ag21 kn21 a
theorem ap21 (cs : Array Value) (off : Nat) : apart Try.prog 21 cs off = cs[off]? := apart_cell ag21 kn21 cs off
theorem so21 (H : Hp) (b off : Nat) (x : Value) : astore Try.prog 21 (.pointer (some ⟨b, off, none⟩)) x H = match H.get b with | .cells true e c => (if x.cells.size = 1 ∧ isTup x = false ∧ off + 1 ≤ c.length then some (H.put b (.cells true e (setAll c off x.cells.toList))) else none) | _ => none := astore_sz sz21 b off x
theorem al21 (X : Outer) (ops : Array Oper) (dd : Option Tmp) (ty : TypeId) (pos : String) (af : Array Edge) (e : Env) (H : Hp) (K : Value → Hp → Prop) : Step Try.prog X ops ⟨dd, .alloc 21, ty, pos, af, none⟩ e H K = K (.pointer (some ⟨H.next, 0, none⟩)) (H.push (.cells true 21 [.int .i32 0])) := Step_alloc zt21 rfl
theorem ld22 (H : Hp) (a : Addr) : aload Try.prog 22 (.pointer (some a)) H = cellAt H a := aload_cell ag22 kn22 a
theorem ap22 (cs : Array Value) (off : Nat) : apart Try.prog 22 cs off = cs[off]? := apart_cell ag22 kn22 cs off
theorem so22 (H : Hp) (b off : Nat) (x : Value) : astore Try.prog 22 (.pointer (some ⟨b, off, none⟩)) x H = match H.get b with | .cells true e c => (if x.cells.size = 1 ∧ isTup x = false ∧ off + 1 ≤ c.length then some (H.put b (.cells true e (setAll c off x.cells.toList))) else none) | _ => none := astore_sz sz22 b off x
theorem al22 (X : Outer) (ops : Array Oper) (dd : Option Tmp) (ty : TypeId) (pos : String) (af : Array Edge) (e : Env) (H : Hp) (K : Value → Hp → Prop) : Step Try.prog X ops ⟨dd, .alloc 22, ty, pos, af, none⟩ e H K = K (.pointer (some ⟨H.next, 0, none⟩)) (H.push (.cells true 22 [.slice none 0 0])) := Step_alloc zt22 rfl
theorem ix22 (b off n : Nat) (k : IntKind) (j : Int) : aindexAddr Try.prog 22 (.slice (some ⟨b, off, none⟩) n 12) (.int k j) = if 0 ≤ j ∧ j < n then some (.pointer (some ⟨b, off + j.toNat * 12, none⟩)) else none := aindexAddr_slice el22 sz38 b off n k j
theorem sl22 (b off n : Nat) (lo hi : Option Value) : aslice Try.prog 22 (.slice (some ⟨b, off, none⟩) n 12) lo hi none = (abound hi n).bind fun h => (abound lo 0).bind fun l => if 0 ≤ l ∧ l ≤ h ∧ h ≤ n then some (.slice (some ⟨b, off + l.toNat * 12, none⟩) (h - l).toNat 12) else none := aslice_slice el22 sz38 b off n lo hi
theorem sn22 (lo hi : Option Value) : aslice Try.prog 22 (.slice none 0 0) lo hi none = (abound hi 0).bind fun h => (abound lo 0).bind fun l => if 0 ≤ l ∧ l ≤ h ∧ h ≤ 0 then some (.slice none 0 0) else none := aslice_nil el22 sz38 lo hi
theorem gr22 (H : Hp) (s x : Value) : aappend Try.prog 22 22 s x H = (acells 12 x (alenOf x) H).bind fun new => agrow2 38 12 104 s (alenOf x) new H := aappend_eq el22 if22 tk22 s x
theorem bs22 (len : Nat) (parts : List (Nat × Value)) (hl : len * 12 ≤ 16777216) : abuild Try.prog 22 len parts = if parts.all (fun p => !isTup p.2) then (afill (fun i => some (i * 12, 12)) (List.replicate len (Value.cells (.agg #[.bool false, .bool false, .bool false, .int .i64 0, .int .i64 0, .int .i64 0, .string .empty, .int .i64 0, .int .i64 0, .int .i64 0, .int .i64 0, .string .empty])).toList).flatten parts).map fun cs => (12, 38, cs) else none := abuild_eq el22 if22 zu22 rfl len parts hl
theorem ln22 (H : Hp) (p : Option Addr) (n c : Nat) : alen Try.prog 22 (.slice p n c) H = some (.int .i64 n) := alen_slice el22 p n c
theorem ld23 (H : Hp) (a : Addr) : aload Try.prog 23 (.pointer (some a)) H = cellAt H a := aload_cell ag23 kn23 a
theorem ap23 (cs : Array Value) (off : Nat) : apart Try.prog 23 cs off = cs[off]? := apart_cell ag23 kn23 cs off
theorem so23 (H : Hp) (b off : Nat) (x : Value) : astore Try.prog 23 (.pointer (some ⟨b, off, none⟩)) x H = match H.get b with | .cells true e c => (if x.cells.size = 1 ∧ isTup x = false ∧ off + 1 ≤ c.length then some (H.put b (.cells true e (setAll c off x.cells.toList))) else none) | _ => none := astore_sz sz23 b off x
theorem al23 (X : Outer) (ops : Array Oper) (dd : Option Tmp) (ty : TypeId) (pos : String) (af : Array Edge) (e : Env) (H : Hp) (K : Value → Hp → Prop) : Step Try.prog X ops ⟨dd, .alloc 23, ty, pos, af, none⟩ e H K = K (.pointer (some ⟨H.next, 0, none⟩)) (H.push (.cells true 23 [.nilFunc])) := Step_alloc zt23 rfl
theorem ld24 (H : Hp) (a : Addr) : aload Try.prog 24 (.pointer (some a)) H = cellAt H a := aload_cell ag24 kn24 a
theorem ap24 (cs : Array Value) (off : Nat) : apart Try.prog 24 cs off = cs[off]? := apart_cell ag24 kn24 cs off
theorem so24 (H : Hp) (b off : Nat) (x : Value) : astore Try.prog 24 (.pointer (some ⟨b, off, none⟩)) x H = match H.get b with | .cells true e c => (if x.cells.size = 1 ∧ isTup x = false ∧ off + 1 ≤ c.length then some (H.put b (.cells true e (setAll c off x.cells.toList))) else none) | _ => none := astore_sz sz24 b off x
theorem al24 (X : Outer) (ops : Array Oper) (dd : Option Tmp) (ty : TypeId) (pos : String) (af : Array Edge) (e : Env) (H : Hp) (K : Value → Hp → Prop) : Step Try.prog X ops ⟨dd, .alloc 24, ty, pos, af, none⟩ e H K = K (.pointer (some ⟨H.next, 0, none⟩)) (H.push (.cells true 24 [.pointer none])) := Step_alloc zt24 rfl
theorem ld25 (H : Hp) (a : Addr) : aload Try.prog 25 (.pointer (some a)) H = cellAt H a := aload_cell ag25 kn25 a
theorem ap25 (cs : Array Value) (off : Nat) : apart Try.prog 25 cs off = cs[off]? := apart_cell ag25 kn25 cs off
theorem so25 (H : Hp) (b off : Nat) (x : Value) : astore Try.prog 25 (.pointer (some ⟨b, off, none⟩)) x H = match H.get b with | .cells true e c => (if x.cells.size = 1 ∧ isTup x = false ∧ off + 1 ≤ c.length then some (H.put b (.cells true e (setAll c off x.cells.toList))) else none) | _ => none := astore_sz sz25 b off x
theorem al25 (X : Outer) (ops : Array Oper) (dd : Option Tmp) (ty : TypeId) (pos : String) (af : Array Edge) (e : Env) (H : Hp) (K : Value → Hp → Prop) : Step Try.prog X ops ⟨dd, .alloc 25, ty, pos, af, none⟩ e H K = K (.pointer (some ⟨H.next, 0, none⟩)) (H.push (.cells true 25 [.slice none 0 0])) := Step_alloc zt25 rfl
theorem ix25 (b off n : Nat) (k : IntKind) (j : Int) : aindexAddr Try.prog 25 (.slice (some ⟨b, off, none⟩) n 11) (.int k j) = if 0 ≤ j ∧ j < n then some (.pointer (some ⟨b, off + j.toNat * 11, none⟩)) else none := aindexAddr_slice el25 sz36 b off n k j
theorem sl25 (b off n : Nat) (lo hi : Option Value) : aslice Try.prog 25 (.slice (some ⟨b, off, none⟩) n 11) lo hi none = (abound hi n).bind fun h => (abound lo 0).bind fun l => if 0 ≤ l ∧ l ≤ h ∧ h ≤ n then some (.slice (some ⟨b, off + l.toNat * 11, none⟩) (h - l).toNat 11) else none := aslice_slice el25 sz36 b off n lo hi
theorem sn25 (lo hi : Option Value) : aslice Try.prog 25 (.slice none 0 0) lo hi none = (abound hi 0).bind fun h => (abound lo 0).bind fun l => if 0 ≤ l ∧ l ≤ h ∧ h ≤ 0 then some (.slice none 0 0) else none := aslice_nil el25 sz36 lo hi
theorem gr25 (H : Hp) (s x : Value) : aappend Try.prog 25 25 s x H = (acells 11 x (alenOf x) H).bind fun new => agrow2 36 11 96 s (alenOf x) new H := aappend_eq el25 if25 tk25 s x
theorem bs25 (len : Nat) (parts : List (Nat × Value)) (hl : len * 11 ≤ 16777216) : abuild Try.prog 25 len parts = if parts.all (fun p => !isTup p.2) then (afill (fun i => some (i * 11, 11)) (List.replicate len (Value.cells (.agg #[.bool false, .bool false, .int .i64 0, .int .i64 0, .int .i64 0, .string .empty, .int .i64 0, .int .i64 0, .int .i64 0, .int .i64 0, .string .empty])).toList).flatten parts).map fun cs => (11, 36, cs) else none := abuild_eq el25 if25 zu25 rfl len parts hl
theorem ln25 (H : Hp) (p : Option Addr) (n c : Nat) : alen Try.prog 25 (.slice p n c) H = some (.int .i64 n) := alen_slice el25 p n c
theorem ld26 (H : Hp) (a : Addr) : aload Try.prog 26 (.pointer (some a)) H = (cellsAt H a 1).map fun c => .agg c.toArray := aload_agg ag26 sz26 a
theorem ap26 (cs : Array Value) (off : Nat) : apart Try.prog 26 cs off = if off + 1 ≤ cs.size then some (.agg (cs.extract off (off + 1))) else none := apart_agg ag26 sz26 cs off
theorem so26 (H : Hp) (b off : Nat) (x : Value) : astore Try.prog 26 (.pointer (some ⟨b, off, none⟩)) x H = match H.get b with | .cells true e c => (if x.cells.size = 1 ∧ isTup x = false ∧ off + 1 ≤ c.length then some (H.put b (.cells true e (setAll c off x.cells.toList))) else none) | _ => none := astore_sz sz26 b off x
theorem al26 (X : Outer) (ops : Array Oper) (dd : Option Tmp) (ty : TypeId) (pos : String) (af : Array Edge) (e : Env) (H : Hp) (K : Value → Hp → Prop) : Step Try.prog X ops ⟨dd, .alloc 26, ty, pos, af, none⟩ e H K = K (.pointer (some ⟨H.next, 0, none⟩)) (H.push (.cells true 26 [.slice none 0 0])) := Step_alloc zt26 rfl
theorem fa26_0 (ρ : Operand → Value) (H : Hp) (x : Operand) : lop Try.prog ρ H (.fieldAddr 26 x 0) = match ρ x with | .pointer (some a) => (if a.spot = none then some (.pointer (some ⟨a.block, a.off + 0, none⟩)) else none) | _ => none := lop_fieldAddr x 0 0 1 pl26_0 (by decide)
theorem fd26_0 (ρ : Operand → Value) (H : Hp) (x : Operand) : lop Try.prog ρ H (.field 26 x 0) = match ρ x with | .agg cs => apart Try.prog 25 cs 0 | _ => none := lop_field x 0 0 1 25 pl26_0 ft26_0
theorem bd26 (ρ : Operand → Value) (H : Hp) (parts : Array (Nat × Operand)) : lop Try.prog ρ H (.build 26 parts) = if parts.toList.all (fun p => !isTup (ρ p.2)) then (afill (place Try.prog 26) (Value.cells (.agg #[.slice none 0 0])).toList (parts.toList.map fun p => (p.1, ρ p.2))).map fun cs => .agg cs.toArray else none := lop_build parts _ zt26 sd26 rfl
theorem ld27 (H : Hp) (a : Addr) : aload Try.prog 27 (.pointer (some a)) H = (cellsAt H a 1).map fun c => .agg c.toArray := aload_agg ag27 sz27 a
theorem ap27 (cs : Array Value) (off : Nat) : apart Try.prog 27 cs off = if off + 1 ≤ cs.size then some (.agg (cs.extract off (off + 1))) else none := apart_agg ag27 sz27 cs off
theorem so27 (H : Hp) (b off : Nat) (x : Value) : astore Try.prog 27 (.pointer (some ⟨b, off, none⟩)) x H = match H.get b with | .cells true e c => (if x.cells.size = 1 ∧ isTup x = false ∧ off + 1 ≤ c.length then some (H.put b (.cells true e (setAll c off x.cells.toList))) else none) | _ => none := astore_sz sz27 b off x
theorem al27 (X : Outer) (ops : Array Oper) (dd : Option Tmp) (ty : TypeId) (pos : String) (af : Array Edge) (e : Env) (H : Hp) (K : Value → Hp → Prop) : Step Try.prog X ops ⟨dd, .alloc 27, ty, pos, af, none⟩ e H K = K (.pointer (some ⟨H.next, 0, none⟩)) (H.push (.cells true 27 [.slice none 0 0])) := Step_alloc zt27 rfl
theorem fa27_0 (ρ : Operand → Value) (H : Hp) (x : Operand) : lop Try.prog ρ H (.fieldAddr 27 x 0) = match ρ x with | .pointer (some a) => (if a.spot = none then some (.pointer (some ⟨a.block, a.off + 0, none⟩)) else none) | _ => none := lop_fieldAddr x 0 0 1 pl27_0 (by decide)
theorem fd27_0 (ρ : Operand → Value) (H : Hp) (x : Operand) : lop Try.prog ρ H (.field 27 x 0) = match ρ x with | .agg cs => apart Try.prog 25 cs 0 | _ => none := lop_field x 0 0 1 25 pl27_0 ft27_0
theorem bd27 (ρ : Operand → Value) (H : Hp) (parts : Array (Nat × Operand)) : lop Try.prog ρ H (.build 27 parts) = if parts.toList.all (fun p => !isTup (ρ p.2)) then (afill (place Try.prog 27) (Value.cells (.agg #[.slice none 0 0])).toList (parts.toList.map fun p => (p.1, ρ p.2))).map fun cs => .agg cs.toArray else none := lop_build parts _ zt27 sd27 rfl
theorem ld28 (H : Hp) (a : Addr) : aload Try.prog 28 (.pointer (some a)) H = cellAt H a := aload_cell ag28 kn28 a
theorem ap28 (cs : Array Value) (off : Nat) : apart Try.prog 28 cs off = cs[off]? := apart_cell ag28 kn28 cs off
theorem so28 (H : Hp) (b off : Nat) (x : Value) : astore Try.prog 28 (.pointer (some ⟨b, off, none⟩)) x H = match H.get b with | .cells true e c => (if x.cells.size = 1 ∧ isTup x = false ∧ off + 1 ≤ c.length then some (H.put b (.cells true e (setAll c off x.cells.toList))) else none) | _ => none := astore_sz sz28 b off x
theorem al28 (X : Outer) (ops : Array Oper) (dd : Option Tmp) (ty : TypeId) (pos : String) (af : Array Edge) (e : Env) (H : Hp) (K : Value → Hp → Prop) : Step Try.prog X ops ⟨dd, .alloc 28, ty, pos, af, none⟩ e H K = K (.pointer (some ⟨H.next, 0, none⟩)) (H.push (.cells true 28 [.nilFunc])) := Step_alloc zt28 rfl
theorem ld29 (H : Hp) (a : Addr) : aload Try.prog 29 (.pointer (some a)) H = (cellsAt H a 3).map fun c => .agg c.toArray := aload_agg ag29 sz29 a
theorem ap29 (cs : Array Value) (off : Nat) : apart Try.prog 29 cs off = if off + 3 ≤ cs.size then some (.agg (cs.extract off (off + 3))) else none := apart_agg ag29 sz29 cs off
theorem so29 (H : Hp) (b off : Nat) (x : Value) : astore Try.prog 29 (.pointer (some ⟨b, off, none⟩)) x H = match H.get b with | .cells true e c => (if x.cells.size = 3 ∧ isTup x = false ∧ off + 3 ≤ c.length then some (H.put b (.cells true e (setAll c off x.cells.toList))) else none) | _ => none := astore_sz sz29 b off x
theorem al29 (X : Outer) (ops : Array Oper) (dd : Option Tmp) (ty : TypeId) (pos : String) (af : Array Edge) (e : Env) (H : Hp) (K : Value → Hp → Prop) : Step Try.prog X ops ⟨dd, .alloc 29, ty, pos, af, none⟩ e H K = K (.pointer (some ⟨H.next, 0, none⟩)) (H.push (.cells true 29 [.int .i64 0, .int .i64 0, .int .i64 0])) := Step_alloc zt29 rfl
theorem fa29_0 (ρ : Operand → Value) (H : Hp) (x : Operand) : lop Try.prog ρ H (.fieldAddr 29 x 0) = match ρ x with | .pointer (some a) => (if a.spot = none then some (.pointer (some ⟨a.block, a.off + 0, none⟩)) else none) | _ => none := lop_fieldAddr x 0 0 1 pl29_0 (by decide)
theorem fd29_0 (ρ : Operand → Value) (H : Hp) (x : Operand) : lop Try.prog ρ H (.field 29 x 0) = match ρ x with | .agg cs => apart Try.prog 3 cs 0 | _ => none := lop_field x 0 0 1 3 pl29_0 ft29_0
theorem fa29_1 (ρ : Operand → Value) (H : Hp) (x : Operand) : lop Try.prog ρ H (.fieldAddr 29 x 1) = match ρ x with | .pointer (some a) => (if a.spot = none then some (.pointer (some ⟨a.block, a.off + 1, none⟩)) else none) | _ => none := lop_fieldAddr x 1 1 1 pl29_1 (by decide)
theorem fd29_1 (ρ : Operand → Value) (H : Hp) (x : Operand) : lop Try.prog ρ H (.field 29 x 1) = match ρ x with | .agg cs => apart Try.prog 3 cs 1 | _ => none := lop_field x 1 1 1 3 pl29_1 ft29_1
theorem fa29_2 (ρ : Operand → Value) (H : Hp) (x : Operand) : lop Try.prog ρ H (.fieldAddr 29 x 2) = match ρ x with | .pointer (some a) => (if a.spot = none then some (.pointer (some ⟨a.block, a.off + 2, none⟩)) else none) | _ => none := lop_fieldAddr x 2 2 1 pl29_2 (by decide)
theorem fd29_2 (ρ : Operand → Value) (H : Hp) (x : Operand) : lop Try.prog ρ H (.field 29 x 2) = match ρ x with | .agg cs => apart Try.prog 3 cs 2 | _ => none := lop_field x 2 2 1 3 pl29_2 ft29_2
theorem bd29 (ρ : Operand → Value) (H : Hp) (parts : Array (Nat × Operand)) : lop Try.prog ρ H (.build 29 parts) = if parts.toList.all (fun p => !isTup (ρ p.2)) then (afill (place Try.prog 29) (Value.cells (.agg #[.int .i64 0, .int .i64 0, .int .i64 0])).toList (parts.toList.map fun p => (p.1, ρ p.2))).map fun cs => .agg cs.toArray else none := lop_build parts _ zt29 sd29 rfl
theorem ld30 (H : Hp) (a : Addr) : aload Try.prog 30 (.pointer (some a)) H = (cellsAt H a 3).map fun c => .agg c.toArray := aload_agg ag30 sz30 a
theorem ap30 (cs : Array Value) (off : Nat) : apart Try.prog 30 cs off = if off + 3 ≤ cs.size then some (.agg (cs.extract off (off + 3))) else none := apart_agg ag30 sz30 cs off
theorem so30 (H : Hp) (b off : Nat) (x : Value) : astore Try.prog 30 (.pointer (some ⟨b, off, none⟩)) x H = match H.get b with | .cells true e c => (if x.cells.size = 3 ∧ isTup x = false ∧ off + 3 ≤ c.length then some (H.put b (.cells true e (setAll c off x.cells.toList))) else none) | _ => none := astore_sz sz30 b off x
theorem al30 (X : Outer) (ops : Array Oper) (dd : Option Tmp) (ty : TypeId) (pos : String) (af : Array Edge) (e : Env) (H : Hp) (K : Value → Hp → Prop) : Step Try.prog X ops ⟨dd, .alloc 30, ty, pos, af, none⟩ e H K = K (.pointer (some ⟨H.next, 0, none⟩)) (H.push (.cells true 30 [.int .i64 0, .int .i64 0, .int .i64 0])) := Step_alloc zt30 rfl
theorem fa30_0 (ρ : Operand → Value) (H : Hp) (x : Operand) : lop Try.prog ρ H (.fieldAddr 30 x 0) = match ρ x with | .pointer (some a) => (if a.spot = none then some (.pointer (some ⟨a.block, a.off + 0, none⟩)) else none) | _ => none := lop_fieldAddr x 0 0 1 pl30_0 (by decide)
theorem fd30_0 (ρ : Operand → Value) (H : Hp) (x : Operand) : lop Try.prog ρ H (.field 30 x 0) = match ρ x with | .agg cs => apart Try.prog 3 cs 0 | _ => none := lop_field x 0 0 1 3 pl30_0 ft30_0
theorem fa30_1 (ρ : Operand → Value) (H : Hp) (x : Operand) : lop Try.prog ρ H (.fieldAddr 30 x 1) = match ρ x with | .pointer (some a) => (if a.spot = none then some (.pointer (some ⟨a.block, a.off + 1, none⟩)) else none) | _ => none := lop_fieldAddr x 1 1 1 pl30_1 (by decide)
theorem fd30_1 (ρ : Operand → Value) (H : Hp) (x : Operand) : lop Try.prog ρ H (.field 30 x 1) = match ρ x with | .agg cs => apart Try.prog 3 cs 1 | _ => none := lop_field x 1 1 1 3 pl30_1 ft30_1
theorem fa30_2 (ρ : Operand → Value) (H : Hp) (x : Operand) : lop Try.prog ρ H (.fieldAddr 30 x 2) = match ρ x with | .pointer (some a) => (if a.spot = none then some (.pointer (some ⟨a.block, a.off + 2, none⟩)) else none) | _ => none := lop_fieldAddr x 2 2 1 pl30_2 (by decide)
theorem fd30_2 (ρ : Operand → Value) (H : Hp) (x : Operand) : lop Try.prog ρ H (.field 30 x 2) = match ρ x with | .agg cs => apart Try.prog 3 cs 2 | _ => none := lop_field x 2 2 1 3 pl30_2 ft30_2
theorem bd30 (ρ : Operand → Value) (H : Hp) (parts : Array (Nat × Operand)) : lop Try.prog ρ H (.build 30 parts) = if parts.toList.all (fun p => !isTup (ρ p.2)) then (afill (place Try.prog 30) (Value.cells (.agg #[.int .i64 0, .int .i64 0, .int .i64 0])).toList (parts.toList.map fun p => (p.1, ρ p.2))).map fun cs => .agg cs.toArray else none := lop_build parts _ zt30 sd30 rfl
theorem ld31 (H : Hp) (a : Addr) : aload Try.prog 31 (.pointer (some a)) H = (cellsAt H a 3).map fun c => .agg c.toArray := aload_agg ag31 sz31 a
theorem ap31 (cs : Array Value) (off : Nat) : apart Try.prog 31 cs off = if off + 3 ≤ cs.size then some (.agg (cs.extract off (off + 3))) else none := apart_agg ag31 sz31 cs off
theorem so31 (H : Hp) (b off : Nat) (x : Value) : astore Try.prog 31 (.pointer (some ⟨b, off, none⟩)) x H = match H.get b with | .cells true e c => (if x.cells.size = 3 ∧ isTup x = false ∧ off + 3 ≤ c.length then some (H.put b (.cells true e (setAll c off x.cells.toList))) else none) | _ => none := astore_sz sz31 b off x
theorem al31 (X : Outer) (ops : Array Oper) (dd : Option Tmp) (ty : TypeId) (pos : String) (af : Array Edge) (e : Env) (H : Hp) (K : Value → Hp → Prop) : Step Try.prog X ops ⟨dd, .alloc 31, ty, pos, af, none⟩ e H K = K (.pointer (some ⟨H.next, 0, none⟩)) (H.push (.cells true 31 [.string .empty, .int .i64 0, .int .i64 0])) := Step_alloc zt31 rfl
theorem fa31_0 (ρ : Operand → Value) (H : Hp) (x : Operand) : lop Try.prog ρ H (.fieldAddr 31 x 0) = match ρ x with | .pointer (some a) => (if a.spot = none then some (.pointer (some ⟨a.block, a.off + 0, none⟩)) else none) | _ => none := lop_fieldAddr x 0 0 1 pl31_0 (by decide)
theorem fd31_0 (ρ : Operand → Value) (H : Hp) (x : Operand) : lop Try.prog ρ H (.field 31 x 0) = match ρ x with | .agg cs => apart Try.prog 9 cs 0 | _ => none := lop_field x 0 0 1 9 pl31_0 ft31_0
theorem fa31_1 (ρ : Operand → Value) (H : Hp) (x : Operand) : lop Try.prog ρ H (.fieldAddr 31 x 1) = match ρ x with | .pointer (some a) => (if a.spot = none then some (.pointer (some ⟨a.block, a.off + 1, none⟩)) else none) | _ => none := lop_fieldAddr x 1 1 1 pl31_1 (by decide)
theorem fd31_1 (ρ : Operand → Value) (H : Hp) (x : Operand) : lop Try.prog ρ H (.field 31 x 1) = match ρ x with | .agg cs => apart Try.prog 3 cs 1 | _ => none := lop_field x 1 1 1 3 pl31_1 ft31_1
theorem fa31_2 (ρ : Operand → Value) (H : Hp) (x : Operand) : lop Try.prog ρ H (.fieldAddr 31 x 2) = match ρ x with | .pointer (some a) => (if a.spot = none then some (.pointer (some ⟨a.block, a.off + 2, none⟩)) else none) | _ => none := lop_fieldAddr x 2 2 1 pl31_2 (by decide)
theorem fd31_2 (ρ : Operand → Value) (H : Hp) (x : Operand) : lop Try.prog ρ H (.field 31 x 2) = match ρ x with | .agg cs => apart Try.prog 3 cs 2 | _ => none := lop_field x 2 2 1 3 pl31_2 ft31_2
theorem bd31 (ρ : Operand → Value) (H : Hp) (parts : Array (Nat × Operand)) : lop Try.prog ρ H (.build 31 parts) = if parts.toList.all (fun p => !isTup (ρ p.2)) then (afill (place Try.prog 31) (Value.cells (.agg #[.string .empty, .int .i64 0, .int .i64 0])).toList (parts.toList.map fun p => (p.1, ρ p.2))).map fun cs => .agg cs.toArray else none := lop_build parts _ zt31 sd31 rfl
theorem ld32 (H : Hp) (a : Addr) : aload Try.prog 32 (.pointer (some a)) H = (cellsAt H a 3).map fun c => .agg c.toArray := aload_agg ag32 sz32 a
theorem ap32 (cs : Array Value) (off : Nat) : apart Try.prog 32 cs off = if off + 3 ≤ cs.size then some (.agg (cs.extract off (off + 3))) else none := apart_agg ag32 sz32 cs off
theorem so32 (H : Hp) (b off : Nat) (x : Value) : astore Try.prog 32 (.pointer (some ⟨b, off, none⟩)) x H = match H.get b with | .cells true e c => (if x.cells.size = 3 ∧ isTup x = false ∧ off + 3 ≤ c.length then some (H.put b (.cells true e (setAll c off x.cells.toList))) else none) | _ => none := astore_sz sz32 b off x
theorem al32 (X : Outer) (ops : Array Oper) (dd : Option Tmp) (ty : TypeId) (pos : String) (af : Array Edge) (e : Env) (H : Hp) (K : Value → Hp → Prop) : Step Try.prog X ops ⟨dd, .alloc 32, ty, pos, af, none⟩ e H K = K (.pointer (some ⟨H.next, 0, none⟩)) (H.push (.cells true 32 [.string .empty, .int .i64 0, .int .i64 0])) := Step_alloc zt32 rfl
theorem fa32_0 (ρ : Operand → Value) (H : Hp) (x : Operand) : lop Try.prog ρ H (.fieldAddr 32 x 0) = match ρ x with | .pointer (some a) => (if a.spot = none then some (.pointer (some ⟨a.block, a.off + 0, none⟩)) else none) | _ => none := lop_fieldAddr x 0 0 1 pl32_0 (by decide)
theorem fd32_0 (ρ : Operand → Value) (H : Hp) (x : Operand) : lop Try.prog ρ H (.field 32 x 0) = match ρ x with | .agg cs => apart Try.prog 9 cs 0 | _ => none := lop_field x 0 0 1 9 pl32_0 ft32_0
theorem fa32_1 (ρ : Operand → Value) (H : Hp) (x : Operand) : lop Try.prog ρ H (.fieldAddr 32 x 1) = match ρ x with | .pointer (some a) => (if a.spot = none then some (.pointer (some ⟨a.block, a.off + 1, none⟩)) else none) | _ => none := lop_fieldAddr x 1 1 1 pl32_1 (by decide)
theorem fd32_1 (ρ : Operand → Value) (H : Hp) (x : Operand) : lop Try.prog ρ H (.field 32 x 1) = match ρ x with | .agg cs => apart Try.prog 3 cs 1 | _ => none := lop_field x 1 1 1 3 pl32_1 ft32_1
theorem fa32_2 (ρ : Operand → Value) (H : Hp) (x : Operand) : lop Try.prog ρ H (.fieldAddr 32 x 2) = match ρ x with | .pointer (some a) => (if a.spot = none then some (.pointer (some ⟨a.block, a.off + 2, none⟩)) else none) | _ => none := lop_fieldAddr x 2 2 1 pl32_2 (by decide)
theorem fd32_2 (ρ : Operand → Value) (H : Hp) (x : Operand) : lop Try.prog ρ H (.field 32 x 2) = match ρ x with | .agg cs => apart Try.prog 3 cs 2 | _ => none := lop_field x 2 2 1 3 pl32_2 ft32_2
theorem bd32 (ρ : Operand → Value) (H : Hp) (parts : Array (Nat × Operand)) : lop Try.prog ρ H (.build 32 parts) = if parts.toList.all (fun p => !isTup (ρ p.2)) then (afill (place Try.prog 32) (Value.cells (.agg #[.string .empty, .int .i64 0, .int .i64 0])).toList (parts.toList.map fun p => (p.1, ρ p.2))).map fun cs => .agg cs.toArray else none := lop_build parts _ zt32 sd32 rfl
theorem ld33 (H : Hp) (a : Addr) : aload Try.prog 33 (.pointer (some a)) H = (cellsAt H a 3).map fun c => .agg c.toArray := aload_agg ag33 sz33 a
theorem ap33 (cs : Array Value) (off : Nat) : apart Try.prog 33 cs off = if off + 3 ≤ cs.size then some (.agg (cs.extract off (off + 3))) else none := apart_agg ag33 sz33 cs off
theorem so33 (H : Hp) (b off : Nat) (x : Value) : astore Try.prog 33 (.pointer (some ⟨b, off, none⟩)) x H = match H.get b with | .cells true e c => (if x.cells.size = 3 ∧ isTup x = false ∧ off + 3 ≤ c.length then some (H.put b (.cells true e (setAll c off x.cells.toList))) else none) | _ => none := astore_sz sz33 b off x
theorem al33 (X : Outer) (ops : Array Oper) (dd : Option Tmp) (ty : TypeId) (pos : String) (af : Array Edge) (e : Env) (H : Hp) (K : Value → Hp → Prop) : Step Try.prog X ops ⟨dd, .alloc 33, ty, pos, af, none⟩ e H K = K (.pointer (some ⟨H.next, 0, none⟩)) (H.push (.cells true 33 [.int .i64 0, .int .i64 0, .string .empty])) := Step_alloc zt33 rfl
theorem fa33_0 (ρ : Operand → Value) (H : Hp) (x : Operand) : lop Try.prog ρ H (.fieldAddr 33 x 0) = match ρ x with | .pointer (some a) => (if a.spot = none then some (.pointer (some ⟨a.block, a.off + 0, none⟩)) else none) | _ => none := lop_fieldAddr x 0 0 1 pl33_0 (by decide)
theorem fd33_0 (ρ : Operand → Value) (H : Hp) (x : Operand) : lop Try.prog ρ H (.field 33 x 0) = match ρ x with | .agg cs => apart Try.prog 3 cs 0 | _ => none := lop_field x 0 0 1 3 pl33_0 ft33_0
theorem fa33_1 (ρ : Operand → Value) (H : Hp) (x : Operand) : lop Try.prog ρ H (.fieldAddr 33 x 1) = match ρ x with | .pointer (some a) => (if a.spot = none then some (.pointer (some ⟨a.block, a.off + 1, none⟩)) else none) | _ => none := lop_fieldAddr x 1 1 1 pl33_1 (by decide)
theorem fd33_1 (ρ : Operand → Value) (H : Hp) (x : Operand) : lop Try.prog ρ H (.field 33 x 1) = match ρ x with | .agg cs => apart Try.prog 3 cs 1 | _ => none := lop_field x 1 1 1 3 pl33_1 ft33_1
theorem fa33_2 (ρ : Operand → Value) (H : Hp) (x : Operand) : lop Try.prog ρ H (.fieldAddr 33 x 2) = match ρ x with | .pointer (some a) => (if a.spot = none then some (.pointer (some ⟨a.block, a.off + 2, none⟩)) else none) | _ => none := lop_fieldAddr x 2 2 1 pl33_2 (by decide)
theorem fd33_2 (ρ : Operand → Value) (H : Hp) (x : Operand) : lop Try.prog ρ H (.field 33 x 2) = match ρ x with | .agg cs => apart Try.prog 9 cs 2 | _ => none := lop_field x 2 2 1 9 pl33_2 ft33_2
theorem bd33 (ρ : Operand → Value) (H : Hp) (parts : Array (Nat × Operand)) : lop Try.prog ρ H (.build 33 parts) = if parts.toList.all (fun p => !isTup (ρ p.2)) then (afill (place Try.prog 33) (Value.cells (.agg #[.int .i64 0, .int .i64 0, .string .empty])).toList (parts.toList.map fun p => (p.1, ρ p.2))).map fun cs => .agg cs.toArray else none := lop_build parts _ zt33 sd33 rfl
theorem ld34 (H : Hp) (a : Addr) : aload Try.prog 34 (.pointer (some a)) H = (cellsAt H a 3).map fun c => .agg c.toArray := aload_agg ag34 sz34 a
theorem ap34 (cs : Array Value) (off : Nat) : apart Try.prog 34 cs off = if off + 3 ≤ cs.size then some (.agg (cs.extract off (off + 3))) else none := apart_agg ag34 sz34 cs off
theorem so34 (H : Hp) (b off : Nat) (x : Value) : astore Try.prog 34 (.pointer (some ⟨b, off, none⟩)) x H = match H.get b with | .cells true e c => (if x.cells.size = 3 ∧ isTup x = false ∧ off + 3 ≤ c.length then some (H.put b (.cells true e (setAll c off x.cells.toList))) else none) | _ => none := astore_sz sz34 b off x
theorem al34 (X : Outer) (ops : Array Oper) (dd : Option Tmp) (ty : TypeId) (pos : String) (af : Array Edge) (e : Env) (H : Hp) (K : Value → Hp → Prop) : Step Try.prog X ops ⟨dd, .alloc 34, ty, pos, af, none⟩ e H K = K (.pointer (some ⟨H.next, 0, none⟩)) (H.push (.cells true 34 [.int .i64 0, .int .i64 0, .string .empty])) := Step_alloc zt34 rfl
theorem fa34_0 (ρ : Operand → Value) (H : Hp) (x : Operand) : lop Try.prog ρ H (.fieldAddr 34 x 0) = match ρ x with | .pointer (some a) => (if a.spot = none then some (.pointer (some ⟨a.block, a.off + 0, none⟩)) else none) | _ => none := lop_fieldAddr x 0 0 1 pl34_0 (by decide)
theorem fd34_0 (ρ : Operand → Value) (H : Hp) (x : Operand) : lop Try.prog ρ H (.field 34 x 0) = match ρ x with | .agg cs => apart Try.prog 3 cs 0 | _ => none := lop_field x 0 0 1 3 pl34_0 ft34_0
theorem fa34_1 (ρ : Operand → Value) (H : Hp) (x : Operand) : lop Try.prog ρ H (.fieldAddr 34 x 1) = match ρ x with | .pointer (some a) => (if a.spot = none then some (.pointer (some ⟨a.block, a.off + 1, none⟩)) else none) | _ => none := lop_fieldAddr x 1 1 1 pl34_1 (by decide)
theorem fd34_1 (ρ : Operand → Value) (H : Hp) (x : Operand) : lop Try.prog ρ H (.field 34 x 1) = match ρ x with | .agg cs => apart Try.prog 3 cs 1 | _ => none := lop_field x 1 1 1 3 pl34_1 ft34_1
theorem fa34_2 (ρ : Operand → Value) (H : Hp) (x : Operand) : lop Try.prog ρ H (.fieldAddr 34 x 2) = match ρ x with | .pointer (some a) => (if a.spot = none then some (.pointer (some ⟨a.block, a.off + 2, none⟩)) else none) | _ => none := lop_fieldAddr x 2 2 1 pl34_2 (by decide)
theorem fd34_2 (ρ : Operand → Value) (H : Hp) (x : Operand) : lop Try.prog ρ H (.field 34 x 2) = match ρ x with | .agg cs => apart Try.prog 9 cs 2 | _ => none := lop_field x 2 2 1 9 pl34_2 ft34_2
theorem bd34 (ρ : Operand → Value) (H : Hp) (parts : Array (Nat × Operand)) : lop Try.prog ρ H (.build 34 parts) = if parts.toList.all (fun p => !isTup (ρ p.2)) then (afill (place Try.prog 34) (Value.cells (.agg #[.int .i64 0, .int .i64 0, .string .empty])).toList (parts.toList.map fun p => (p.1, ρ p.2))).map fun cs => .agg cs.toArray else none := lop_build parts _ zt34 sd34 rfl
theorem ld35 (H : Hp) (a : Addr) : aload Try.prog 35 (.pointer (some a)) H = (cellsAt H a 11).map fun c => .agg c.toArray := aload_agg ag35 sz35 a
theorem ap35 (cs : Array Value) (off : Nat) : apart Try.prog 35 cs off = if off + 11 ≤ cs.size then some (.agg (cs.extract off (off + 11))) else none := apart_agg ag35 sz35 cs off
theorem so35 (H : Hp) (b off : Nat) (x : Value) : astore Try.prog 35 (.pointer (some ⟨b, off, none⟩)) x H = match H.get b with | .cells true e c => (if x.cells.size = 11 ∧ isTup x = false ∧ off + 11 ≤ c.length then some (H.put b (.cells true e (setAll c off x.cells.toList))) else none) | _ => none := astore_sz sz35 b off x
theorem al35 (X : Outer) (ops : Array Oper) (dd : Option Tmp) (ty : TypeId) (pos : String) (af : Array Edge) (e : Env) (H : Hp) (K : Value → Hp → Prop) : Step Try.prog X ops ⟨dd, .alloc 35, ty, pos, af, none⟩ e H K = K (.pointer (some ⟨H.next, 0, none⟩)) (H.push (.cells true 35 [.bool false, .bool false, .int .i64 0, .int .i64 0, .int .i64 0, .string .empty, .int .i64 0, .int .i64 0, .int .i64 0, .int .i64 0, .string .empty])) := Step_alloc zt35 rfl
theorem fa35_0 (ρ : Operand → Value) (H : Hp) (x : Operand) : lop Try.prog ρ H (.fieldAddr 35 x 0) = match ρ x with | .pointer (some a) => (if a.spot = none then some (.pointer (some ⟨a.block, a.off + 0, none⟩)) else none) | _ => none := lop_fieldAddr x 0 0 1 pl35_0 (by decide)
theorem fd35_0 (ρ : Operand → Value) (H : Hp) (x : Operand) : lop Try.prog ρ H (.field 35 x 0) = match ρ x with | .agg cs => apart Try.prog 4 cs 0 | _ => none := lop_field x 0 0 1 4 pl35_0 ft35_0
theorem fa35_1 (ρ : Operand → Value) (H : Hp) (x : Operand) : lop Try.prog ρ H (.fieldAddr 35 x 1) = match ρ x with | .pointer (some a) => (if a.spot = none then some (.pointer (some ⟨a.block, a.off + 1, none⟩)) else none) | _ => none := lop_fieldAddr x 1 1 1 pl35_1 (by decide)
theorem fd35_1 (ρ : Operand → Value) (H : Hp) (x : Operand) : lop Try.prog ρ H (.field 35 x 1) = match ρ x with | .agg cs => apart Try.prog 4 cs 1 | _ => none := lop_field x 1 1 1 4 pl35_1 ft35_1
theorem fa35_2 (ρ : Operand → Value) (H : Hp) (x : Operand) : lop Try.prog ρ H (.fieldAddr 35 x 2) = match ρ x with | .pointer (some a) => (if a.spot = none then some (.pointer (some ⟨a.block, a.off + 2, none⟩)) else none) | _ => none := lop_fieldAddr x 2 2 3 pl35_2 (by decide)
theorem fd35_2 (ρ : Operand → Value) (H : Hp) (x : Operand) : lop Try.prog ρ H (.field 35 x 2) = match ρ x with | .agg cs => apart Try.prog 30 cs 2 | _ => none := lop_field x 2 2 3 30 pl35_2 ft35_2
theorem fa35_3 (ρ : Operand → Value) (H : Hp) (x : Operand) : lop Try.prog ρ H (.fieldAddr 35 x 3) = match ρ x with | .pointer (some a) => (if a.spot = none then some (.pointer (some ⟨a.block, a.off + 5, none⟩)) else none) | _ => none := lop_fieldAddr x 3 5 3 pl35_3 (by decide)
theorem fd35_3 (ρ : Operand → Value) (H : Hp) (x : Operand) : lop Try.prog ρ H (.field 35 x 3) = match ρ x with | .agg cs => apart Try.prog 32 cs 5 | _ => none := lop_field x 3 5 3 32 pl35_3 ft35_3
theorem fa35_4 (ρ : Operand → Value) (H : Hp) (x : Operand) : lop Try.prog ρ H (.fieldAddr 35 x 4) = match ρ x with | .pointer (some a) => (if a.spot = none then some (.pointer (some ⟨a.block, a.off + 8, none⟩)) else none) | _ => none := lop_fieldAddr x 4 8 3 pl35_4 (by decide)
theorem fd35_4 (ρ : Operand → Value) (H : Hp) (x : Operand) : lop Try.prog ρ H (.field 35 x 4) = match ρ x with | .agg cs => apart Try.prog 34 cs 8 | _ => none := lop_field x 4 8 3 34 pl35_4 ft35_4
theorem bd35 (ρ : Operand → Value) (H : Hp) (parts : Array (Nat × Operand)) : lop Try.prog ρ H (.build 35 parts) = if parts.toList.all (fun p => !isTup (ρ p.2)) then (afill (place Try.prog 35) (Value.cells (.agg #[.bool false, .bool false, .int .i64 0, .int .i64 0, .int .i64 0, .string .empty, .int .i64 0, .int .i64 0, .int .i64 0, .int .i64 0, .string .empty])).toList (parts.toList.map fun p => (p.1, ρ p.2))).map fun cs => .agg cs.toArray else none := lop_build parts _ zt35 sd35 rfl
theorem ld36 (H : Hp) (a : Addr) : aload Try.prog 36 (.pointer (some a)) H = (cellsAt H a 11).map fun c => .agg c.toArray := aload_agg ag36 sz36 a
theorem ap36 (cs : Array Value) (off : Nat) : apart Try.prog 36 cs off = if off + 11 ≤ cs.size then some (.agg (cs.extract off (off + 11))) else none := apart_agg ag36 sz36 cs off
theorem so36 (H : Hp) (b off : Nat) (x : Value) : astore Try.prog 36 (.pointer (some ⟨b, off, none⟩)) x H = match H.get b with | .cells true e c => (if x.cells.size = 11 ∧ isTup x = false ∧ off + 11 ≤ c.length then some (H.put b (.cells true e (setAll c off x.cells.toList))) else none) | _ => none := astore_sz sz36 b off x
theorem al36 (X : Outer) (ops : Array Oper) (dd : Option Tmp) (ty : TypeId) (pos : String) (af : Array Edge) (e : Env) (H : Hp) (K : Value → Hp → Prop) : Step Try.prog X ops ⟨dd, .alloc 36, ty, pos, af, none⟩ e H K = K (.pointer (some ⟨H.next, 0, none⟩)) (H.push (.cells true 36 [.bool false, .bool false, .int .i64 0, .int .i64 0, .int .i64 0, .string .empty, .int .i64 0, .int .i64 0, .int .i64 0, .int .i64 0, .string .empty])) := Step_alloc zt36 rfl
theorem fa36_0 (ρ : Operand → Value) (H : Hp) (x : Operand) : lop Try.prog ρ H (.fieldAddr 36 x 0) = match ρ x with | .pointer (some a) => (if a.spot = none then some (.pointer (some ⟨a.block, a.off + 0, none⟩)) else none) | _ => none := lop_fieldAddr x 0 0 1 pl36_0 (by decide)
theorem fd36_0 (ρ : Operand → Value) (H : Hp) (x : Operand) : lop Try.prog ρ H (.field 36 x 0) = match ρ x with | .agg cs => apart Try.prog 4 cs 0 | _ => none := lop_field x 0 0 1 4 pl36_0 ft36_0
theorem fa36_1 (ρ : Operand → Value) (H : Hp) (x : Operand) : lop Try.prog ρ H (.fieldAddr 36 x 1) = match ρ x with | .pointer (some a) => (if a.spot = none then some (.pointer (some ⟨a.block, a.off + 1, none⟩)) else none) | _ => none := lop_fieldAddr x 1 1 1 pl36_1 (by decide)
theorem fd36_1 (ρ : Operand → Value) (H : Hp) (x : Operand) : lop Try.prog ρ H (.field 36 x 1) = match ρ x with | .agg cs => apart Try.prog 4 cs 1 | _ => none := lop_field x 1 1 1 4 pl36_1 ft36_1
theorem fa36_2 (ρ : Operand → Value) (H : Hp) (x : Operand) : lop Try.prog ρ H (.fieldAddr 36 x 2) = match ρ x with | .pointer (some a) => (if a.spot = none then some (.pointer (some ⟨a.block, a.off + 2, none⟩)) else none) | _ => none := lop_fieldAddr x 2 2 3 pl36_2 (by decide)
theorem fd36_2 (ρ : Operand → Value) (H : Hp) (x : Operand) : lop Try.prog ρ H (.field 36 x 2) = match ρ x with | .agg cs => apart Try.prog 30 cs 2 | _ => none := lop_field x 2 2 3 30 pl36_2 ft36_2
theorem fa36_3 (ρ : Operand → Value) (H : Hp) (x : Operand) : lop Try.prog ρ H (.fieldAddr 36 x 3) = match ρ x with | .pointer (some a) => (if a.spot = none then some (.pointer (some ⟨a.block, a.off + 5, none⟩)) else none) | _ => none := lop_fieldAddr x 3 5 3 pl36_3 (by decide)
theorem fd36_3 (ρ : Operand → Value) (H : Hp) (x : Operand) : lop Try.prog ρ H (.field 36 x 3) = match ρ x with | .agg cs => apart Try.prog 32 cs 5 | _ => none := lop_field x 3 5 3 32 pl36_3 ft36_3
theorem fa36_4 (ρ : Operand → Value) (H : Hp) (x : Operand) : lop Try.prog ρ H (.fieldAddr 36 x 4) = match ρ x with | .pointer (some a) => (if a.spot = none then some (.pointer (some ⟨a.block, a.off + 8, none⟩)) else none) | _ => none := lop_fieldAddr x 4 8 3 pl36_4 (by decide)
theorem fd36_4 (ρ : Operand → Value) (H : Hp) (x : Operand) : lop Try.prog ρ H (.field 36 x 4) = match ρ x with | .agg cs => apart Try.prog 34 cs 8 | _ => none := lop_field x 4 8 3 34 pl36_4 ft36_4
theorem bd36 (ρ : Operand → Value) (H : Hp) (parts : Array (Nat × Operand)) : lop Try.prog ρ H (.build 36 parts) = if parts.toList.all (fun p => !isTup (ρ p.2)) then (afill (place Try.prog 36) (Value.cells (.agg #[.bool false, .bool false, .int .i64 0, .int .i64 0, .int .i64 0, .string .empty, .int .i64 0, .int .i64 0, .int .i64 0, .int .i64 0, .string .empty])).toList (parts.toList.map fun p => (p.1, ρ p.2))).map fun cs => .agg cs.toArray else none := lop_build parts _ zt36 sd36 rfl
theorem ld37 (H : Hp) (a : Addr) : aload Try.prog 37 (.pointer (some a)) H = (cellsAt H a 12).map fun c => .agg c.toArray := aload_agg ag37 sz37 a
theorem ap37 (cs : Array Value) (off : Nat) : apart Try.prog 37 cs off = if off + 12 ≤ cs.size then some (.agg (cs.extract off (off + 12))) else none := apart_agg ag37 sz37 cs off
theorem so37 (H : Hp) (b off : Nat) (x : Value) : astore Try.prog 37 (.pointer (some ⟨b, off, none⟩)) x H = match H.get b with | .cells true e c => (if x.cells.size = 12 ∧ isTup x = false ∧ off + 12 ≤ c.length then some (H.put b (.cells true e (setAll c off x.cells.toList))) else none) | _ => none := astore_sz sz37 b off x
theorem al37 (X : Outer) (ops : Array Oper) (dd : Option Tmp) (ty : TypeId) (pos : String) (af : Array Edge) (e : Env) (H : Hp) (K : Value → Hp → Prop) : Step Try.prog X ops ⟨dd, .alloc 37, ty, pos, af, none⟩ e H K = K (.pointer (some ⟨H.next, 0, none⟩)) (H.push (.cells true 37 [.bool false, .bool false, .bool false, .int .i64 0, .int .i64 0, .int .i64 0, .string .empty, .int .i64 0, .int .i64 0, .int .i64 0, .int .i64 0, .string .empty])) := Step_alloc zt37 rfl
theorem fa37_0 (ρ : Operand → Value) (H : Hp) (x : Operand) : lop Try.prog ρ H (.fieldAddr 37 x 0) = match ρ x with | .pointer (some a) => (if a.spot = none then some (.pointer (some ⟨a.block, a.off + 0, none⟩)) else none) | _ => none := lop_fieldAddr x 0 0 1 pl37_0 (by decide)
theorem fd37_0 (ρ : Operand → Value) (H : Hp) (x : Operand) : lop Try.prog ρ H (.field 37 x 0) = match ρ x with | .agg cs => apart Try.prog 4 cs 0 | _ => none := lop_field x 0 0 1 4 pl37_0 ft37_0
theorem fa37_1 (ρ : Operand → Value) (H : Hp) (x : Operand) : lop Try.prog ρ H (.fieldAddr 37 x 1) = match ρ x with | .pointer (some a) => (if a.spot = none then some (.pointer (some ⟨a.block, a.off + 1, none⟩)) else none) | _ => none := lop_fieldAddr x 1 1 11 pl37_1 (by decide)
theorem fd37_1 (ρ : Operand → Value) (H : Hp) (x : Operand) : lop Try.prog ρ H (.field 37 x 1) = match ρ x with | .agg cs => apart Try.prog 36 cs 1 | _ => none := lop_field x 1 1 11 36 pl37_1 ft37_1
theorem bd37 (ρ : Operand → Value) (H : Hp) (parts : Array (Nat × Operand)) : lop Try.prog ρ H (.build 37 parts) = if parts.toList.all (fun p => !isTup (ρ p.2)) then (afill (place Try.prog 37) (Value.cells (.agg #[.bool false, .bool false, .bool false, .int .i64 0, .int .i64 0, .int .i64 0, .string .empty, .int .i64 0, .int .i64 0, .int .i64 0, .int .i64 0, .string .empty])).toList (parts.toList.map fun p => (p.1, ρ p.2))).map fun cs => .agg cs.toArray else none := lop_build parts _ zt37 sd37 rfl
theorem ld38 (H : Hp) (a : Addr) : aload Try.prog 38 (.pointer (some a)) H = (cellsAt H a 12).map fun c => .agg c.toArray := aload_agg ag38 sz38 a
theorem ap38 (cs : Array Value) (off : Nat) : apart Try.prog 38 cs off = if off + 12 ≤ cs.size then some (.agg (cs.extract off (off + 12))) else none := apart_agg ag38 sz38 cs off
theorem so38 (H : Hp) (b off : Nat) (x : Value) : astore Try.prog 38 (.pointer (some ⟨b, off, none⟩)) x H = match H.get b with | .cells true e c => (if x.cells.size = 12 ∧ isTup x = false ∧ off + 12 ≤ c.length then some (H.put b (.cells true e (setAll c off x.cells.toList))) else none) | _ => none := astore_sz sz38 b off x
theorem al38 (X : Outer) (ops : Array Oper) (dd : Option Tmp) (ty : TypeId) (pos : String) (af : Array Edge) (e : Env) (H : Hp) (K : Value → Hp → Prop) : Step Try.prog X ops ⟨dd, .alloc 38, ty, pos, af, none⟩ e H K = K (.pointer (some ⟨H.next, 0, none⟩)) (H.push (.cells true 38 [.bool false, .bool false, .bool false, .int .i64 0, .int .i64 0, .int .i64 0, .string .empty, .int .i64 0, .int .i64 0, .int .i64 0, .int .i64 0, .string .empty])) := Step_alloc zt38 rfl
theorem fa38_0 (ρ : Operand → Value) (H : Hp) (x : Operand) : lop Try.prog ρ H (.fieldAddr 38 x 0) = match ρ x with | .pointer (some a) => (if a.spot = none then some (.pointer (some ⟨a.block, a.off + 0, none⟩)) else none) | _ => none := lop_fieldAddr x 0 0 1 pl38_0 (by decide)
theorem fd38_0 (ρ : Operand → Value) (H : Hp) (x : Operand) : lop Try.prog ρ H (.field 38 x 0) = match ρ x with | .agg cs => apart Try.prog 4 cs 0 | _ => none := lop_field x 0 0 1 4 pl38_0 ft38_0
theorem fa38_1 (ρ : Operand → Value) (H : Hp) (x : Operand) : lop Try.prog ρ H (.fieldAddr 38 x 1) = match ρ x with | .pointer (some a) => (if a.spot = none then some (.pointer (some ⟨a.block, a.off + 1, none⟩)) else none) | _ => none := lop_fieldAddr x 1 1 11 pl38_1 (by decide)
theorem fd38_1 (ρ : Operand → Value) (H : Hp) (x : Operand) : lop Try.prog ρ H (.field 38 x 1) = match ρ x with | .agg cs => apart Try.prog 36 cs 1 | _ => none := lop_field x 1 1 11 36 pl38_1 ft38_1
theorem bd38 (ρ : Operand → Value) (H : Hp) (parts : Array (Nat × Operand)) : lop Try.prog ρ H (.build 38 parts) = if parts.toList.all (fun p => !isTup (ρ p.2)) then (afill (place Try.prog 38) (Value.cells (.agg #[.bool false, .bool false, .bool false, .int .i64 0, .int .i64 0, .int .i64 0, .string .empty, .int .i64 0, .int .i64 0, .int .i64 0, .int .i64 0, .string .empty])).toList (parts.toList.map fun p => (p.1, ρ p.2))).map fun cs => .agg cs.toArray else none := lop_build parts _ zt38 sd38 rfl
theorem ld39 (H : Hp) (a : Addr) : aload Try.prog 39 (.pointer (some a)) H = cellAt H a := aload_cell ag39 kn39 a
theorem ap39 (cs : Array Value) (off : Nat) : apart Try.prog 39 cs off = cs[off]? := apart_cell ag39 kn39 cs off
theorem so39 (H : Hp) (b off : Nat) (x : Value) : astore Try.prog 39 (.pointer (some ⟨b, off, none⟩)) x H = match H.get b with | .cells true e c => (if x.cells.size = 1 ∧ isTup x = false ∧ off + 1 ≤ c.length then some (H.put b (.cells true e (setAll c off x.cells.toList))) else none) | _ => none := astore_sz sz39 b off x
theorem ld40 (H : Hp) (a : Addr) : aload Try.prog 40 (.pointer (some a)) H = cellAt H a := aload_cell ag40 kn40 a
theorem ap40 (cs : Array Value) (off : Nat) : apart Try.prog 40 cs off = cs[off]? := apart_cell ag40 kn40 cs off
theorem so40 (H : Hp) (b off : Nat) (x : Value) : astore Try.prog 40 (.pointer (some ⟨b, off, none⟩)) x H = match H.get b with | .cells true e c => (if x.cells.size = 1 ∧ isTup x = false ∧ off + 1 ≤ c.length then some (H.put b (.cells true e (setAll c off x.cells.toList))) else none) | _ => none := astore_sz sz40 b off x
theorem al40 (X : Outer) (ops : Array Oper) (dd : Option Tmp) (ty : TypeId) (pos : String) (af : Array Edge) (e : Env) (H : Hp) (K : Value → Hp → Prop) : Step Try.prog X ops ⟨dd, .alloc 40, ty, pos, af, none⟩ e H K = K (.pointer (some ⟨H.next, 0, none⟩)) (H.push (.cells true 40 [.nilFunc])) := Step_alloc zt40 rfl
theorem ld41 (H : Hp) (a : Addr) : aload Try.prog 41 (.pointer (some a)) H = cellAt H a := aload_cell ag41 kn41 a
theorem ap41 (cs : Array Value) (off : Nat) : apart Try.prog 41 cs off = cs[off]? := apart_cell ag41 kn41 cs off
theorem so41 (H : Hp) (b off : Nat) (x : Value) : astore Try.prog 41 (.pointer (some ⟨b, off, none⟩)) x H = match H.get b with | .cells true e c => (if x.cells.size = 1 ∧ isTup x = false ∧ off + 1 ≤ c.length then some (H.put b (.cells true e (setAll c off x.cells.toList))) else none) | _ => none := astore_sz sz41 b off x
theorem al41 (X : Outer) (ops : Array Oper) (dd : Option Tmp) (ty : TypeId) (pos : String) (af : Array Edge) (e : Env) (H : Hp) (K : Value → Hp → Prop) : Step Try.prog X ops ⟨dd, .alloc 41, ty, pos, af, none⟩ e H K = K (.pointer (some ⟨H.next, 0, none⟩)) (H.push (.cells true 41 [.nilFunc])) := Step_alloc zt41 rfl
theorem ld42 (H : Hp) (a : Addr) : aload Try.prog 42 (.pointer (some a)) H = cellAt H a := aload_cell ag42 kn42 a
theorem ap42 (cs : Array Value) (off : Nat) : apart Try.prog 42 cs off = cs[off]? := apart_cell ag42 kn42 cs off
theorem so42 (H : Hp) (b off : Nat) (x : Value) : astore Try.prog 42 (.pointer (some ⟨b, off, none⟩)) x H = match H.get b with | .cells true e c => (if x.cells.size = 1 ∧ isTup x = false ∧ off + 1 ≤ c.length then some (H.put b (.cells true e (setAll c off x.cells.toList))) else none) | _ => none := astore_sz sz42 b off x
theorem al42 (X : Outer) (ops : Array Oper) (dd : Option Tmp) (ty : TypeId) (pos : String) (af : Array Edge) (e : Env) (H : Hp) (K : Value → Hp → Prop) : Step Try.prog X ops ⟨dd, .alloc 42, ty, pos, af, none⟩ e H K = K (.pointer (some ⟨H.next, 0, none⟩)) (H.push (.cells true 42 [.nilFunc])) := Step_alloc zt42 rfl
theorem ld43 (H : Hp) (a : Addr) : aload Try.prog 43 (.pointer (some a)) H = (cellsAt H a 6).map fun c => .agg c.toArray := aload_agg ag43 sz43 a
theorem ap43 (cs : Array Value) (off : Nat) : apart Try.prog 43 cs off = if off + 6 ≤ cs.size then some (.agg (cs.extract off (off + 6))) else none := apart_agg ag43 sz43 cs off
theorem so43 (H : Hp) (b off : Nat) (x : Value) : astore Try.prog 43 (.pointer (some ⟨b, off, none⟩)) x H = match H.get b with | .cells true e c => (if x.cells.size = 6 ∧ isTup x = false ∧ off + 6 ≤ c.length then some (H.put b (.cells true e (setAll c off x.cells.toList))) else none) | _ => none := astore_sz sz43 b off x
theorem al43 (X : Outer) (ops : Array Oper) (dd : Option Tmp) (ty : TypeId) (pos : String) (af : Array Edge) (e : Env) (H : Hp) (K : Value → Hp → Prop) : Step Try.prog X ops ⟨dd, .alloc 43, ty, pos, af, none⟩ e H K = K (.pointer (some ⟨H.next, 0, none⟩)) (H.push (.cells true 43 [.string .empty, .int .i64 0, .int .i64 0, .string .empty, .int .i64 0, .int .i64 0])) := Step_alloc zt43 rfl
theorem fa43_0 (ρ : Operand → Value) (H : Hp) (x : Operand) : lop Try.prog ρ H (.fieldAddr 43 x 0) = match ρ x with | .pointer (some a) => (if a.spot = none then some (.pointer (some ⟨a.block, a.off + 0, none⟩)) else none) | _ => none := lop_fieldAddr x 0 0 3 pl43_0 (by decide)
theorem fd43_0 (ρ : Operand → Value) (H : Hp) (x : Operand) : lop Try.prog ρ H (.field 43 x 0) = match ρ x with | .agg cs => apart Try.prog 32 cs 0 | _ => none := lop_field x 0 0 3 32 pl43_0 ft43_0
theorem fa43_1 (ρ : Operand → Value) (H : Hp) (x : Operand) : lop Try.prog ρ H (.fieldAddr 43 x 1) = match ρ x with | .pointer (some a) => (if a.spot = none then some (.pointer (some ⟨a.block, a.off + 3, none⟩)) else none) | _ => none := lop_fieldAddr x 1 3 3 pl43_1 (by decide)
theorem fd43_1 (ρ : Operand → Value) (H : Hp) (x : Operand) : lop Try.prog ρ H (.field 43 x 1) = match ρ x with | .agg cs => apart Try.prog 32 cs 3 | _ => none := lop_field x 1 3 3 32 pl43_1 ft43_1
theorem bd43 (ρ : Operand → Value) (H : Hp) (parts : Array (Nat × Operand)) : lop Try.prog ρ H (.build 43 parts) = if parts.toList.all (fun p => !isTup (ρ p.2)) then (afill (place Try.prog 43) (Value.cells (.agg #[.string .empty, .int .i64 0, .int .i64 0, .string .empty, .int .i64 0, .int .i64 0])).toList (parts.toList.map fun p => (p.1, ρ p.2))).map fun cs => .agg cs.toArray else none := lop_build parts _ zt43 sd43 rfl
theorem ld44 (H : Hp) (a : Addr) : aload Try.prog 44 (.pointer (some a)) H = (cellsAt H a 6).map fun c => .agg c.toArray := aload_agg ag44 sz44 a
theorem ap44 (cs : Array Value) (off : Nat) : apart Try.prog 44 cs off = if off + 6 ≤ cs.size then some (.agg (cs.extract off (off + 6))) else none := apart_agg ag44 sz44 cs off
theorem so44 (H : Hp) (b off : Nat) (x : Value) : astore Try.prog 44 (.pointer (some ⟨b, off, none⟩)) x H = match H.get b with | .cells true e c => (if x.cells.size = 6 ∧ isTup x = false ∧ off + 6 ≤ c.length then some (H.put b (.cells true e (setAll c off x.cells.toList))) else none) | _ => none := astore_sz sz44 b off x
theorem al44 (X : Outer) (ops : Array Oper) (dd : Option Tmp) (ty : TypeId) (pos : String) (af : Array Edge) (e : Env) (H : Hp) (K : Value → Hp → Prop) : Step Try.prog X ops ⟨dd, .alloc 44, ty, pos, af, none⟩ e H K = K (.pointer (some ⟨H.next, 0, none⟩)) (H.push (.cells true 44 [.string .empty, .int .i64 0, .int .i64 0, .string .empty, .int .i64 0, .int .i64 0])) := Step_alloc zt44 rfl
theorem fa44_0 (ρ : Operand → Value) (H : Hp) (x : Operand) : lop Try.prog ρ H (.fieldAddr 44 x 0) = match ρ x with | .pointer (some a) => (if a.spot = none then some (.pointer (some ⟨a.block, a.off + 0, none⟩)) else none) | _ => none := lop_fieldAddr x 0 0 3 pl44_0 (by decide)
theorem fd44_0 (ρ : Operand → Value) (H : Hp) (x : Operand) : lop Try.prog ρ H (.field 44 x 0) = match ρ x with | .agg cs => apart Try.prog 32 cs 0 | _ => none := lop_field x 0 0 3 32 pl44_0 ft44_0
theorem fa44_1 (ρ : Operand → Value) (H : Hp) (x : Operand) : lop Try.prog ρ H (.fieldAddr 44 x 1) = match ρ x with | .pointer (some a) => (if a.spot = none then some (.pointer (some ⟨a.block, a.off + 3, none⟩)) else none) | _ => none := lop_fieldAddr x 1 3 3 pl44_1 (by decide)
theorem fd44_1 (ρ : Operand → Value) (H : Hp) (x : Operand) : lop Try.prog ρ H (.field 44 x 1) = match ρ x with | .agg cs => apart Try.prog 32 cs 3 | _ => none := lop_field x 1 3 3 32 pl44_1 ft44_1
theorem bd44 (ρ : Operand → Value) (H : Hp) (parts : Array (Nat × Operand)) : lop Try.prog ρ H (.build 44 parts) = if parts.toList.all (fun p => !isTup (ρ p.2)) then (afill (place Try.prog 44) (Value.cells (.agg #[.string .empty, .int .i64 0, .int .i64 0, .string .empty, .int .i64 0, .int .i64 0])).toList (parts.toList.map fun p => (p.1, ρ p.2))).map fun cs => .agg cs.toArray else none := lop_build parts _ zt44 sd44 rfl
theorem ld45 (H : Hp) (a : Addr) : aload Try.prog 45 (.pointer (some a)) H = (cellsAt H a 12).map fun c => .agg c.toArray := aload_agg ag45 sz45 a
theorem ap45 (cs : Array Value) (off : Nat) : apart Try.prog 45 cs off = if off + 12 ≤ cs.size then some (.agg (cs.extract off (off + 12))) else none := apart_agg ag45 sz45 cs off
theorem so45 (H : Hp) (b off : Nat) (x : Value) : astore Try.prog 45 (.pointer (some ⟨b, off, none⟩)) x H = match H.get b with | .cells true e c => (if x.cells.size = 12 ∧ isTup x = false ∧ off + 12 ≤ c.length then some (H.put b (.cells true e (setAll c off x.cells.toList))) else none) | _ => none := astore_sz sz45 b off x
theorem al45 (X : Outer) (ops : Array Oper) (dd : Option Tmp) (ty : TypeId) (pos : String) (af : Array Edge) (e : Env) (H : Hp) (K : Value → Hp → Prop) : Step Try.prog X ops ⟨dd, .alloc 45, ty, pos, af, none⟩ e H K = K (.pointer (some ⟨H.next, 0, none⟩)) (H.push (.cells true 45 [.int .i64 0, .string .empty, .int .i64 0, .int .i64 0, .string .empty, .string .empty, .string .empty, .int .i64 0, .int .i64 0, .string .empty, .int .i64 0, .int .i64 0])) := Step_alloc zt45 rfl
theorem fa45_0 (ρ : Operand → Value) (H : Hp) (x : Operand) : lop Try.prog ρ H (.fieldAddr 45 x 0) = match ρ x with | .pointer (some a) => (if a.spot = none then some (.pointer (some ⟨a.block, a.off + 0, none⟩)) else none) | _ => none := lop_fieldAddr x 0 0 1 pl45_0 (by decide)
theorem fd45_0 (ρ : Operand → Value) (H : Hp) (x : Operand) : lop Try.prog ρ H (.field 45 x 0) = match ρ x with | .agg cs => apart Try.prog 3 cs 0 | _ => none := lop_field x 0 0 1 3 pl45_0 ft45_0
theorem fa45_1 (ρ : Operand → Value) (H : Hp) (x : Operand) : lop Try.prog ρ H (.fieldAddr 45 x 1) = match ρ x with | .pointer (some a) => (if a.spot = none then some (.pointer (some ⟨a.block, a.off + 1, none⟩)) else none) | _ => none := lop_fieldAddr x 1 1 3 pl45_1 (by decide)
theorem fd45_1 (ρ : Operand → Value) (H : Hp) (x : Operand) : lop Try.prog ρ H (.field 45 x 1) = match ρ x with | .agg cs => apart Try.prog 32 cs 1 | _ => none := lop_field x 1 1 3 32 pl45_1 ft45_1
theorem fa45_2 (ρ : Operand → Value) (H : Hp) (x : Operand) : lop Try.prog ρ H (.fieldAddr 45 x 2) = match ρ x with | .pointer (some a) => (if a.spot = none then some (.pointer (some ⟨a.block, a.off + 4, none⟩)) else none) | _ => none := lop_fieldAddr x 2 4 1 pl45_2 (by decide)
theorem fd45_2 (ρ : Operand → Value) (H : Hp) (x : Operand) : lop Try.prog ρ H (.field 45 x 2) = match ρ x with | .agg cs => apart Try.prog 9 cs 4 | _ => none := lop_field x 2 4 1 9 pl45_2 ft45_2
theorem fa45_3 (ρ : Operand → Value) (H : Hp) (x : Operand) : lop Try.prog ρ H (.fieldAddr 45 x 3) = match ρ x with | .pointer (some a) => (if a.spot = none then some (.pointer (some ⟨a.block, a.off + 5, none⟩)) else none) | _ => none := lop_fieldAddr x 3 5 1 pl45_3 (by decide)
theorem fd45_3 (ρ : Operand → Value) (H : Hp) (x : Operand) : lop Try.prog ρ H (.field 45 x 3) = match ρ x with | .agg cs => apart Try.prog 9 cs 5 | _ => none := lop_field x 3 5 1 9 pl45_3 ft45_3
theorem fa45_4 (ρ : Operand → Value) (H : Hp) (x : Operand) : lop Try.prog ρ H (.fieldAddr 45 x 4) = match ρ x with | .pointer (some a) => (if a.spot = none then some (.pointer (some ⟨a.block, a.off + 6, none⟩)) else none) | _ => none := lop_fieldAddr x 4 6 6 pl45_4 (by decide)
theorem fd45_4 (ρ : Operand → Value) (H : Hp) (x : Operand) : lop Try.prog ρ H (.field 45 x 4) = match ρ x with | .agg cs => apart Try.prog 44 cs 6 | _ => none := lop_field x 4 6 6 44 pl45_4 ft45_4
theorem bd45 (ρ : Operand → Value) (H : Hp) (parts : Array (Nat × Operand)) : lop Try.prog ρ H (.build 45 parts) = if parts.toList.all (fun p => !isTup (ρ p.2)) then (afill (place Try.prog 45) (Value.cells (.agg #[.int .i64 0, .string .empty, .int .i64 0, .int .i64 0, .string .empty, .string .empty, .string .empty, .int .i64 0, .int .i64 0, .string .empty, .int .i64 0, .int .i64 0])).toList (parts.toList.map fun p => (p.1, ρ p.2))).map fun cs => .agg cs.toArray else none := lop_build parts _ zt45 sd45 rfl
theorem ld46 (H : Hp) (a : Addr) : aload Try.prog 46 (.pointer (some a)) H = (cellsAt H a 12).map fun c => .agg c.toArray := aload_agg ag46 sz46 a
theorem ap46 (cs : Array Value) (off : Nat) : apart Try.prog 46 cs off = if off + 12 ≤ cs.size then some (.agg (cs.extract off (off + 12))) else none := apart_agg ag46 sz46 cs off
theorem so46 (H : Hp) (b off : Nat) (x : Value) : astore Try.prog 46 (.pointer (some ⟨b, off, none⟩)) x H = match H.get b with | .cells true e c => (if x.cells.size = 12 ∧ isTup x = false ∧ off + 12 ≤ c.length then some (H.put b (.cells true e (setAll c off x.cells.toList))) else none) | _ => none := astore_sz sz46 b off x
theorem al46 (X : Outer) (ops : Array Oper) (dd : Option Tmp) (ty : TypeId) (pos : String) (af : Array Edge) (e : Env) (H : Hp) (K : Value → Hp → Prop) : Step Try.prog X ops ⟨dd, .alloc 46, ty, pos, af, none⟩ e H K = K (.pointer (some ⟨H.next, 0, none⟩)) (H.push (.cells true 46 [.int .i64 0, .string .empty, .int .i64 0, .int .i64 0, .string .empty, .string .empty, .string .empty, .int .i64 0, .int .i64 0, .string .empty, .int .i64 0, .int .i64 0])) := Step_alloc zt46 rfl
theorem fa46_0 (ρ : Operand → Value) (H : Hp) (x : Operand) : lop Try.prog ρ H (.fieldAddr 46 x 0) = match ρ x with | .pointer (some a) => (if a.spot = none then some (.pointer (some ⟨a.block, a.off + 0, none⟩)) else none) | _ => none := lop_fieldAddr x 0 0 1 pl46_0 (by decide)
theorem fd46_0 (ρ : Operand → Value) (H : Hp) (x : Operand) : lop Try.prog ρ H (.field 46 x 0) = match ρ x with | .agg cs => apart Try.prog 3 cs 0 | _ => none := lop_field x 0 0 1 3 pl46_0 ft46_0
theorem fa46_1 (ρ : Operand → Value) (H : Hp) (x : Operand) : lop Try.prog ρ H (.fieldAddr 46 x 1) = match ρ x with | .pointer (some a) => (if a.spot = none then some (.pointer (some ⟨a.block, a.off + 1, none⟩)) else none) | _ => none := lop_fieldAddr x 1 1 3 pl46_1 (by decide)
theorem fd46_1 (ρ : Operand → Value) (H : Hp) (x : Operand) : lop Try.prog ρ H (.field 46 x 1) = match ρ x with | .agg cs => apart Try.prog 32 cs 1 | _ => none := lop_field x 1 1 3 32 pl46_1 ft46_1
theorem fa46_2 (ρ : Operand → Value) (H : Hp) (x : Operand) : lop Try.prog ρ H (.fieldAddr 46 x 2) = match ρ x with | .pointer (some a) => (if a.spot = none then some (.pointer (some ⟨a.block, a.off + 4, none⟩)) else none) | _ => none := lop_fieldAddr x 2 4 1 pl46_2 (by decide)
theorem fd46_2 (ρ : Operand → Value) (H : Hp) (x : Operand) : lop Try.prog ρ H (.field 46 x 2) = match ρ x with | .agg cs => apart Try.prog 9 cs 4 | _ => none := lop_field x 2 4 1 9 pl46_2 ft46_2
theorem fa46_3 (ρ : Operand → Value) (H : Hp) (x : Operand) : lop Try.prog ρ H (.fieldAddr 46 x 3) = match ρ x with | .pointer (some a) => (if a.spot = none then some (.pointer (some ⟨a.block, a.off + 5, none⟩)) else none) | _ => none := lop_fieldAddr x 3 5 1 pl46_3 (by decide)
theorem fd46_3 (ρ : Operand → Value) (H : Hp) (x : Operand) : lop Try.prog ρ H (.field 46 x 3) = match ρ x with | .agg cs => apart Try.prog 9 cs 5 | _ => none := lop_field x 3 5 1 9 pl46_3 ft46_3
theorem fa46_4 (ρ : Operand → Value) (H : Hp) (x : Operand) : lop Try.prog ρ H (.fieldAddr 46 x 4) = match ρ x with | .pointer (some a) => (if a.spot = none then some (.pointer (some ⟨a.block, a.off + 6, none⟩)) else none) | _ => none := lop_fieldAddr x 4 6 6 pl46_4 (by decide)
theorem fd46_4 (ρ : Operand → Value) (H : Hp) (x : Operand) : lop Try.prog ρ H (.field 46 x 4) = match ρ x with | .agg cs => apart Try.prog 44 cs 6 | _ => none := lop_field x 4 6 6 44 pl46_4 ft46_4
theorem bd46 (ρ : Operand → Value) (H : Hp) (parts : Array (Nat × Operand)) : lop Try.prog ρ H (.build 46 parts) = if parts.toList.all (fun p => !isTup (ρ p.2)) then (afill (place Try.prog 46) (Value.cells (.agg #[.int .i64 0, .string .empty, .int .i64 0, .int .i64 0, .string .empty, .string .empty, .string .empty, .int .i64 0, .int .i64 0, .string .empty, .int .i64 0, .int .i64 0])).toList (parts.toList.map fun p => (p.1, ρ p.2))).map fun cs => .agg cs.toArray else none := lop_build parts _ zt46 sd46 rfl
theorem ld47 (H : Hp) (a : Addr) : aload Try.prog 47 (.pointer (some a)) H = cellAt H a := aload_cell ag47 kn47 a
theorem ap47 (cs : Array Value) (off : Nat) : apart Try.prog 47 cs off = cs[off]? := apart_cell ag47 kn47 cs off
theorem so47 (H : Hp) (b off : Nat) (x : Value) : astore Try.prog 47 (.pointer (some ⟨b, off, none⟩)) x H = match H.get b with | .cells true e c => (if x.cells.size = 1 ∧ isTup x = false ∧ off + 1 ≤ c.length then some (H.put b (.cells true e (setAll c off x.cells.toList))) else none) | _ => none := astore_sz sz47 b off x
theorem al47 (X : Outer) (ops : Array Oper) (dd : Option Tmp) (ty : TypeId) (pos : String) (af : Array Edge) (e : Env) (H : Hp) (K : Value → Hp → Prop) : Step Try.prog X ops ⟨dd, .alloc 47, ty, pos, af, none⟩ e H K = K (.pointer (some ⟨H.next, 0, none⟩)) (H.push (.cells true 47 [.slice none 0 0])) := Step_alloc zt47 rfl
theorem ix47 (b off n : Nat) (k : IntKind) (j : Int) : aindexAddr Try.prog 47 (.slice (some ⟨b, off, none⟩) n 1) (.int k j) = if 0 ≤ j ∧ j < n then some (.pointer (some ⟨b, off + j.toNat * 1, none⟩)) else none := aindexAddr_slice el47 sz5 b off n k j
theorem sl47 (b off n : Nat) (lo hi : Option Value) : aslice Try.prog 47 (.slice (some ⟨b, off, none⟩) n 1) lo hi none = (abound hi n).bind fun h => (abound lo 0).bind fun l => if 0 ≤ l ∧ l ≤ h ∧ h ≤ n then some (.slice (some ⟨b, off + l.toNat * 1, none⟩) (h - l).toNat 1) else none := aslice_slice el47 sz5 b off n lo hi
theorem sn47 (lo hi : Option Value) : aslice Try.prog 47 (.slice none 0 0) lo hi none = (abound hi 0).bind fun h => (abound lo 0).bind fun l => if 0 ≤ l ∧ l ≤ h ∧ h ≤ 0 then some (.slice none 0 0) else none := aslice_nil el47 sz5 lo hi
theorem gr47 (H : Hp) (s x : Value) : aappend Try.prog 47 47 s x H = (acells 1 x (alenOf x) H).bind fun new => agrow2 5 1 1 s (alenOf x) new H := aappend_eq el47 if47 tk47 s x
theorem bs47 (len : Nat) (parts : List (Nat × Value)) (hl : len * 1 ≤ 16777216) : abuild Try.prog 47 len parts = if parts.all (fun p => !isTup p.2) then (afill (fun i => some (i * 1, 1)) (List.replicate len (Value.cells (.int .u8 0)).toList).flatten parts).map fun cs => (1, 5, cs) else none := abuild_eq el47 if47 zu47 rfl len parts hl
theorem ln47 (H : Hp) (p : Option Addr) (n c : Nat) : alen Try.prog 47 (.slice p n c) H = some (.int .i64 n) := alen_slice el47 p n c
theorem ld48 (H : Hp) (a : Addr) : aload Try.prog 48 (.pointer (some a)) H = cellAt H a := aload_cell ag48 kn48 a
theorem ap48 (cs : Array Value) (off : Nat) : apart Try.prog 48 cs off = cs[off]? := apart_cell ag48 kn48 cs off
theorem so48 (H : Hp) (b off : Nat) (x : Value) : astore Try.prog 48 (.pointer (some ⟨b, off, none⟩)) x H = match H.get b with | .cells true e c => (if x.cells.size = 1 ∧ isTup x = false ∧ off + 1 ≤ c.length then some (H.put b (.cells true e (setAll c off x.cells.toList))) else none) | _ => none := astore_sz sz48 b off x
theorem al48 (X : Outer) (ops : Array Oper) (dd : Option Tmp) (ty : TypeId) (pos : String) (af : Array Edge) (e : Env) (H : Hp) (K : Value → Hp → Prop) : Step Try.prog X ops ⟨dd, .alloc 48, ty, pos, af, none⟩ e H K = K (.pointer (some ⟨H.next, 0, none⟩)) (H.push (.cells true 48 [.nilFunc])) := Step_alloc zt48 rfl
theorem ld49 (H : Hp) (a : Addr) : aload Try.prog 49 (.pointer (some a)) H = cellAt H a := aload_cell ag49 kn49 a
theorem ap49 (cs : Array Value) (off : Nat) : apart Try.prog 49 cs off = cs[off]? := apart_cell ag49 kn49 cs off
theorem so49 (H : Hp) (b off : Nat) (x : Value) : astore Try.prog 49 (.pointer (some ⟨b, off, none⟩)) x H = match H.get b with | .cells true e c => (if x.cells.size = 1 ∧ isTup x = false ∧ off + 1 ≤ c.length then some (H.put b (.cells true e (setAll c off x.cells.toList))) else none) | _ => none := astore_sz sz49 b off x
theorem al49 (X : Outer) (ops : Array Oper) (dd : Option Tmp) (ty : TypeId) (pos : String) (af : Array Edge) (e : Env) (H : Hp) (K : Value → Hp → Prop) : Step Try.prog X ops ⟨dd, .alloc 49, ty, pos, af, none⟩ e H K = K (.pointer (some ⟨H.next, 0, none⟩)) (H.push (.cells true 49 [.int .i64 0])) := Step_alloc zt49 rfl
theorem ld50 (H : Hp) (a : Addr) : aload Try.prog 50 (.pointer (some a)) H = cellAt H a := aload_cell ag50 kn50 a
theorem ap50 (cs : Array Value) (off : Nat) : apart Try.prog 50 cs off = cs[off]? := apart_cell ag50 kn50 cs off
theorem so50 (H : Hp) (b off : Nat) (x : Value) : astore Try.prog 50 (.pointer (some ⟨b, off, none⟩)) x H = match H.get b with | .cells true e c => (if x.cells.size = 1 ∧ isTup x = false ∧ off + 1 ≤ c.length then some (H.put b (.cells true e (setAll c off x.cells.toList))) else none) | _ => none := astore_sz sz50 b off x
theorem ld51 (H : Hp) (a : Addr) : aload Try.prog 51 (.pointer (some a)) H = cellAt H a := aload_cell ag51 kn51 a
theorem ap51 (cs : Array Value) (off : Nat) : apart Try.prog 51 cs off = cs[off]? := apart_cell ag51 kn51 cs off
theorem so51 (H : Hp) (b off : Nat) (x : Value) : astore Try.prog 51 (.pointer (some ⟨b, off, none⟩)) x H = match H.get b with | .cells true e c => (if x.cells.size = 1 ∧ isTup x = false ∧ off + 1 ≤ c.length then some (H.put b (.cells true e (setAll c off x.cells.toList))) else none) | _ => none := astore_sz sz51 b off x
theorem al51 (X : Outer) (ops : Array Oper) (dd : Option Tmp) (ty : TypeId) (pos : String) (af : Array Edge) (e : Env) (H : Hp) (K : Value → Hp → Prop) : Step Try.prog X ops ⟨dd, .alloc 51, ty, pos, af, none⟩ e H K = K (.pointer (some ⟨H.next, 0, none⟩)) (H.push (.cells true 51 [.nilFunc])) := Step_alloc zt51 rfl
theorem ld52 (H : Hp) (a : Addr) : aload Try.prog 52 (.pointer (some a)) H = cellAt H a := aload_cell ag52 kn52 a
theorem ap52 (cs : Array Value) (off : Nat) : apart Try.prog 52 cs off = cs[off]? := apart_cell ag52 kn52 cs off
theorem so52 (H : Hp) (b off : Nat) (x : Value) : astore Try.prog 52 (.pointer (some ⟨b, off, none⟩)) x H = match H.get b with | .cells true e c => (if x.cells.size = 1 ∧ isTup x = false ∧ off + 1 ≤ c.length then some (H.put b (.cells true e (setAll c off x.cells.toList))) else none) | _ => none := astore_sz sz52 b off x
theorem ld53 (H : Hp) (a : Addr) : aload Try.prog 53 (.pointer (some a)) H = cellAt H a := aload_cell ag53 kn53 a
theorem ap53 (cs : Array Value) (off : Nat) : apart Try.prog 53 cs off = cs[off]? := apart_cell ag53 kn53 cs off
theorem so53 (H : Hp) (b off : Nat) (x : Value) : astore Try.prog 53 (.pointer (some ⟨b, off, none⟩)) x H = match H.get b with | .cells true e c => (if x.cells.size = 1 ∧ isTup x = false ∧ off + 1 ≤ c.length then some (H.put b (.cells true e (setAll c off x.cells.toList))) else none) | _ => none := astore_sz sz53 b off x
theorem al53 (X : Outer) (ops : Array Oper) (dd : Option Tmp) (ty : TypeId) (pos : String) (af : Array Edge) (e : Env) (H : Hp) (K : Value → Hp → Prop) : Step Try.prog X ops ⟨dd, .alloc 53, ty, pos, af, none⟩ e H K = K (.pointer (some ⟨H.next, 0, none⟩)) (H.push (.cells true 53 [.nilFunc])) := Step_alloc zt53 rfl
theorem ld54 (H : Hp) (a : Addr) : aload Try.prog 54 (.pointer (some a)) H = cellAt H a := aload_cell ag54 kn54 a
theorem ap54 (cs : Array Value) (off : Nat) : apart Try.prog 54 cs off = cs[off]? := apart_cell ag54 kn54 cs off
theorem so54 (H : Hp) (b off : Nat) (x : Value) : astore Try.prog 54 (.pointer (some ⟨b, off, none⟩)) x H = match H.get b with | .cells true e c => (if x.cells.size = 1 ∧ isTup x = false ∧ off + 1 ≤ c.length then some (H.put b (.cells true e (setAll c off x.cells.toList))) else none) | _ => none := astore_sz sz54 b off x
theorem al54 (X : Outer) (ops : Array Oper) (dd : Option Tmp) (ty : TypeId) (pos : String) (af : Array Edge) (e : Env) (H : Hp) (K : Value → Hp → Prop) : Step Try.prog X ops ⟨dd, .alloc 54, ty, pos, af, none⟩ e H K = K (.pointer (some ⟨H.next, 0, none⟩)) (H.push (.cells true 54 [.nilFunc])) := Step_alloc zt54 rfl
theorem ld55 (H : Hp) (a : Addr) : aload Try.prog 55 (.pointer (some a)) H = cellAt H a := aload_cell ag55 kn55 a
theorem ap55 (cs : Array Value) (off : Nat) : apart Try.prog 55 cs off = cs[off]? := apart_cell ag55 kn55 cs off
theorem so55 (H : Hp) (b off : Nat) (x : Value) : astore Try.prog 55 (.pointer (some ⟨b, off, none⟩)) x H = match H.get b with | .cells true e c => (if x.cells.size = 1 ∧ isTup x = false ∧ off + 1 ≤ c.length then some (H.put b (.cells true e (setAll c off x.cells.toList))) else none) | _ => none := astore_sz sz55 b off x
theorem al55 (X : Outer) (ops : Array Oper) (dd : Option Tmp) (ty : TypeId) (pos : String) (af : Array Edge) (e : Env) (H : Hp) (K : Value → Hp → Prop) : Step Try.prog X ops ⟨dd, .alloc 55, ty, pos, af, none⟩ e H K = K (.pointer (some ⟨H.next, 0, none⟩)) (H.push (.cells true 55 [.nilFunc])) := Step_alloc zt55 rfl
theorem ld56 (H : Hp) (a : Addr) : aload Try.prog 56 (.pointer (some a)) H = cellAt H a := aload_cell ag56 kn56 a
theorem ap56 (cs : Array Value) (off : Nat) : apart Try.prog 56 cs off = cs[off]? := apart_cell ag56 kn56 cs off
theorem so56 (H : Hp) (b off : Nat) (x : Value) : astore Try.prog 56 (.pointer (some ⟨b, off, none⟩)) x H = match H.get b with | .cells true e c => (if x.cells.size = 1 ∧ isTup x = false ∧ off + 1 ≤ c.length then some (H.put b (.cells true e (setAll c off x.cells.toList))) else none) | _ => none := astore_sz sz56 b off x
theorem al56 (X : Outer) (ops : Array Oper) (dd : Option Tmp) (ty : TypeId) (pos : String) (af : Array Edge) (e : Env) (H : Hp) (K : Value → Hp → Prop) : Step Try.prog X ops ⟨dd, .alloc 56, ty, pos, af, none⟩ e H K = K (.pointer (some ⟨H.next, 0, none⟩)) (H.push (.cells true 56 [.slice none 0 0])) := Step_alloc zt56 rfl
theorem ix56 (b off n : Nat) (k : IntKind) (j : Int) : aindexAddr Try.prog 56 (.slice (some ⟨b, off, none⟩) n 3) (.int k j) = if 0 ≤ j ∧ j < n then some (.pointer (some ⟨b, off + j.toNat * 3, none⟩)) else none := aindexAddr_slice el56 sz66 b off n k j
theorem sl56 (b off n : Nat) (lo hi : Option Value) : aslice Try.prog 56 (.slice (some ⟨b, off, none⟩) n 3) lo hi none = (abound hi n).bind fun h => (abound lo 0).bind fun l => if 0 ≤ l ∧ l ≤ h ∧ h ≤ n then some (.slice (some ⟨b, off + l.toNat * 3, none⟩) (h - l).toNat 3) else none := aslice_slice el56 sz66 b off n lo hi
theorem sn56 (lo hi : Option Value) : aslice Try.prog 56 (.slice none 0 0) lo hi none = (abound hi 0).bind fun h => (abound lo 0).bind fun l => if 0 ≤ l ∧ l ≤ h ∧ h ≤ 0 then some (.slice none 0 0) else none := aslice_nil el56 sz66 lo hi
theorem gr56 (H : Hp) (s x : Value) : aappend Try.prog 56 56 s x H = (acells 3 x (alenOf x) H).bind fun new => agrow2 66 3 32 s (alenOf x) new H := aappend_eq el56 if56 tk56 s x
theorem bs56 (len : Nat) (parts : List (Nat × Value)) (hl : len * 3 ≤ 16777216) : abuild Try.prog 56 len parts = if parts.all (fun p => !isTup p.2) then (afill (fun i => some (i * 3, 3)) (List.replicate len (Value.cells (.agg #[.int .i64 0, .int .i64 0, .string .empty])).toList).flatten parts).map fun cs => (3, 66, cs) else none := abuild_eq el56 if56 zu56 rfl len parts hl
theorem ln56 (H : Hp) (p : Option Addr) (n c : Nat) : alen Try.prog 56 (.slice p n c) H = some (.int .i64 n) := alen_slice el56 p n c
theorem ld57 (H : Hp) (a : Addr) : aload Try.prog 57 (.pointer (some a)) H = cellAt H a := aload_cell ag57 kn57 a
theorem ap57 (cs : Array Value) (off : Nat) : apart Try.prog 57 cs off = cs[off]? := apart_cell ag57 kn57 cs off
theorem so57 (H : Hp) (b off : Nat) (x : Value) : astore Try.prog 57 (.pointer (some ⟨b, off, none⟩)) x H = match H.get b with | .cells true e c => (if x.cells.size = 1 ∧ isTup x = false ∧ off + 1 ≤ c.length then some (H.put b (.cells true e (setAll c off x.cells.toList))) else none) | _ => none := astore_sz sz57 b off x
theorem ld58 (H : Hp) (a : Addr) : aload Try.prog 58 (.pointer (some a)) H = cellAt H a := aload_cell ag58 kn58 a
theorem ap58 (cs : Array Value) (off : Nat) : apart Try.prog 58 cs off = cs[off]? := apart_cell ag58 kn58 cs off
theorem so58 (H : Hp) (b off : Nat) (x : Value) : astore Try.prog 58 (.pointer (some ⟨b, off, none⟩)) x H = match H.get b with | .cells true e c => (if x.cells.size = 1 ∧ isTup x = false ∧ off + 1 ≤ c.length then some (H.put b (.cells true e (setAll c off x.cells.toList))) else none) | _ => none := astore_sz sz58 b off x
theorem al58 (X : Outer) (ops : Array Oper) (dd : Option Tmp) (ty : TypeId) (pos : String) (af : Array Edge) (e : Env) (H : Hp) (K : Value → Hp → Prop) : Step Try.prog X ops ⟨dd, .alloc 58, ty, pos, af, none⟩ e H K = K (.pointer (some ⟨H.next, 0, none⟩)) (H.push (.cells true 58 [.nilFunc])) := Step_alloc zt58 rfl
theorem ld59 (H : Hp) (a : Addr) : aload Try.prog 59 (.pointer (some a)) H = cellAt H a := aload_cell ag59 kn59 a
theorem ap59 (cs : Array Value) (off : Nat) : apart Try.prog 59 cs off = cs[off]? := apart_cell ag59 kn59 cs off
theorem so59 (H : Hp) (b off : Nat) (x : Value) : astore Try.prog 59 (.pointer (some ⟨b, off, none⟩)) x H = match H.get b with | .cells true e c => (if x.cells.size = 1 ∧ isTup x = false ∧ off + 1 ≤ c.length then some (H.put b (.cells true e (setAll c off x.cells.toList))) else none) | _ => none := astore_sz sz59 b off x
theorem ld60 (H : Hp) (a : Addr) : aload Try.prog 60 (.pointer (some a)) H = cellAt H a := aload_cell ag60 kn60 a
theorem ap60 (cs : Array Value) (off : Nat) : apart Try.prog 60 cs off = cs[off]? := apart_cell ag60 kn60 cs off
theorem so60 (H : Hp) (b off : Nat) (x : Value) : astore Try.prog 60 (.pointer (some ⟨b, off, none⟩)) x H = match H.get b with | .cells true e c => (if x.cells.size = 1 ∧ isTup x = false ∧ off + 1 ≤ c.length then some (H.put b (.cells true e (setAll c off x.cells.toList))) else none) | _ => none := astore_sz sz60 b off x
theorem al60 (X : Outer) (ops : Array Oper) (dd : Option Tmp) (ty : TypeId) (pos : String) (af : Array Edge) (e : Env) (H : Hp) (K : Value → Hp → Prop) : Step Try.prog X ops ⟨dd, .alloc 60, ty, pos, af, none⟩ e H K = K (.pointer (some ⟨H.next, 0, none⟩)) (H.push (.cells true 60 [.nilFunc])) := Step_alloc zt60 rfl
theorem ld61 (H : Hp) (a : Addr) : aload Try.prog 61 (.pointer (some a)) H = cellAt H a := aload_cell ag61 kn61 a
theorem ap61 (cs : Array Value) (off : Nat) : apart Try.prog 61 cs off = cs[off]? := apart_cell ag61 kn61 cs off
theorem so61 (H : Hp) (b off : Nat) (x : Value) : astore Try.prog 61 (.pointer (some ⟨b, off, none⟩)) x H = match H.get b with | .cells true e c => (if x.cells.size = 1 ∧ isTup x = false ∧ off + 1 ≤ c.length then some (H.put b (.cells true e (setAll c off x.cells.toList))) else none) | _ => none := astore_sz sz61 b off x
theorem al61 (X : Outer) (ops : Array Oper) (dd : Option Tmp) (ty : TypeId) (pos : String) (af : Array Edge) (e : Env) (H : Hp) (K : Value → Hp → Prop) : Step Try.prog X ops ⟨dd, .alloc 61, ty, pos, af, none⟩ e H K = K (.pointer (some ⟨H.next, 0, none⟩)) (H.push (.cells true 61 [.nilFunc])) := Step_alloc zt61 rfl
theorem ld62 (H : Hp) (a : Addr) : aload Try.prog 62 (.pointer (some a)) H = cellAt H a := aload_cell ag62 kn62 a
theorem ap62 (cs : Array Value) (off : Nat) : apart Try.prog 62 cs off = cs[off]? := apart_cell ag62 kn62 cs off
theorem so62 (H : Hp) (b off : Nat) (x : Value) : astore Try.prog 62 (.pointer (some ⟨b, off, none⟩)) x H = match H.get b with | .cells true e c => (if x.cells.size = 1 ∧ isTup x = false ∧ off + 1 ≤ c.length then some (H.put b (.cells true e (setAll c off x.cells.toList))) else none) | _ => none := astore_sz sz62 b off x
theorem al62 (X : Outer) (ops : Array Oper) (dd : Option Tmp) (ty : TypeId) (pos : String) (af : Array Edge) (e : Env) (H : Hp) (K : Value → Hp → Prop) : Step Try.prog X ops ⟨dd, .alloc 62, ty, pos, af, none⟩ e H K = K (.pointer (some ⟨H.next, 0, none⟩)) (H.push (.cells true 62 [.nilFunc])) := Step_alloc zt62 rfl
theorem ld63 (H : Hp) (a : Addr) : aload Try.prog 63 (.pointer (some a)) H = cellAt H a := aload_cell ag63 kn63 a
theorem ap63 (cs : Array Value) (off : Nat) : apart Try.prog 63 cs off = cs[off]? := apart_cell ag63 kn63 cs off
theorem so63 (H : Hp) (b off : Nat) (x : Value) : astore Try.prog 63 (.pointer (some ⟨b, off, none⟩)) x H = match H.get b with | .cells true e c => (if x.cells.size = 1 ∧ isTup x = false ∧ off + 1 ≤ c.length then some (H.put b (.cells true e (setAll c off x.cells.toList))) else none) | _ => none := astore_sz sz63 b off x
theorem al63 (X : Outer) (ops : Array Oper) (dd : Option Tmp) (ty : TypeId) (pos : String) (af : Array Edge) (e : Env) (H : Hp) (K : Value → Hp → Prop) : Step Try.prog X ops ⟨dd, .alloc 63, ty, pos, af, none⟩ e H K = K (.pointer (some ⟨H.next, 0, none⟩)) (H.push (.cells true 63 [.slice none 0 0])) := Step_alloc zt63 rfl
theorem ix63 (b off n : Nat) (k : IntKind) (j : Int) : aindexAddr Try.prog 63 (.slice (some ⟨b, off, none⟩) n 1) (.int k j) = if 0 ≤ j ∧ j < n then some (.pointer (some ⟨b, off + j.toNat * 1, none⟩)) else none := aindexAddr_slice el63 sz9 b off n k j
theorem sl63 (b off n : Nat) (lo hi : Option Value) : aslice Try.prog 63 (.slice (some ⟨b, off, none⟩) n 1) lo hi none = (abound hi n).bind fun h => (abound lo 0).bind fun l => if 0 ≤ l ∧ l ≤ h ∧ h ≤ n then some (.slice (some ⟨b, off + l.toNat * 1, none⟩) (h - l).toNat 1) else none := aslice_slice el63 sz9 b off n lo hi
theorem sn63 (lo hi : Option Value) : aslice Try.prog 63 (.slice none 0 0) lo hi none = (abound hi 0).bind fun h => (abound lo 0).bind fun l => if 0 ≤ l ∧ l ≤ h ∧ h ≤ 0 then some (.slice none 0 0) else none := aslice_nil el63 sz9 lo hi
theorem gr63 (H : Hp) (s x : Value) : aappend Try.prog 63 63 s x H = (acells 1 x (alenOf x) H).bind fun new => agrow2 9 1 16 s (alenOf x) new H := aappend_eq el63 if63 tk63 s x
theorem bs63 (len : Nat) (parts : List (Nat × Value)) (hl : len * 1 ≤ 16777216) : abuild Try.prog 63 len parts = if parts.all (fun p => !isTup p.2) then (afill (fun i => some (i * 1, 1)) (List.replicate len (Value.cells (.string .empty)).toList).flatten parts).map fun cs => (1, 9, cs) else none := abuild_eq el63 if63 zu63 rfl len parts hl
theorem ln63 (H : Hp) (p : Option Addr) (n c : Nat) : alen Try.prog 63 (.slice p n c) H = some (.int .i64 n) := alen_slice el63 p n c
theorem ld64 (H : Hp) (a : Addr) : aload Try.prog 64 (.pointer (some a)) H = cellAt H a := aload_cell ag64 kn64 a
theorem ap64 (cs : Array Value) (off : Nat) : apart Try.prog 64 cs off = cs[off]? := apart_cell ag64 kn64 cs off
theorem so64 (H : Hp) (b off : Nat) (x : Value) : astore Try.prog 64 (.pointer (some ⟨b, off, none⟩)) x H = match H.get b with | .cells true e c => (if x.cells.size = 1 ∧ isTup x = false ∧ off + 1 ≤ c.length then some (H.put b (.cells true e (setAll c off x.cells.toList))) else none) | _ => none := astore_sz sz64 b off x
theorem al64 (X : Outer) (ops : Array Oper) (dd : Option Tmp) (ty : TypeId) (pos : String) (af : Array Edge) (e : Env) (H : Hp) (K : Value → Hp → Prop) : Step Try.prog X ops ⟨dd, .alloc 64, ty, pos, af, none⟩ e H K = K (.pointer (some ⟨H.next, 0, none⟩)) (H.push (.cells true 64 [.slice none 0 0])) := Step_alloc zt64 rfl
theorem ix64 (b off n : Nat) (k : IntKind) (j : Int) : aindexAddr Try.prog 64 (.slice (some ⟨b, off, none⟩) n 1) (.int k j) = if 0 ≤ j ∧ j < n then some (.pointer (some ⟨b, off + j.toNat * 1, none⟩)) else none := aindexAddr_slice el64 sz3 b off n k j
theorem sl64 (b off n : Nat) (lo hi : Option Value) : aslice Try.prog 64 (.slice (some ⟨b, off, none⟩) n 1) lo hi none = (abound hi n).bind fun h => (abound lo 0).bind fun l => if 0 ≤ l ∧ l ≤ h ∧ h ≤ n then some (.slice (some ⟨b, off + l.toNat * 1, none⟩) (h - l).toNat 1) else none := aslice_slice el64 sz3 b off n lo hi
theorem sn64 (lo hi : Option Value) : aslice Try.prog 64 (.slice none 0 0) lo hi none = (abound hi 0).bind fun h => (abound lo 0).bind fun l => if 0 ≤ l ∧ l ≤ h ∧ h ≤ 0 then some (.slice none 0 0) else none := aslice_nil el64 sz3 lo hi
theorem gr64 (H : Hp) (s x : Value) : aappend Try.prog 64 64 s x H = (acells 1 x (alenOf x) H).bind fun new => agrow2 3 1 8 s (alenOf x) new H := aappend_eq el64 if64 tk64 s x
theorem bs64 (len : Nat) (parts : List (Nat × Value)) (hl : len * 1 ≤ 16777216) : abuild Try.prog 64 len parts = if parts.all (fun p => !isTup p.2) then (afill (fun i => some (i * 1, 1)) (List.replicate len (Value.cells (.int .i64 0)).toList).flatten parts).map fun cs => (1, 3, cs) else none := abuild_eq el64 if64 zu64 rfl len parts hl
theorem ln64 (H : Hp) (p : Option Addr) (n c : Nat) : alen Try.prog 64 (.slice p n c) H = some (.int .i64 n) := alen_slice el64 p n c
theorem ld65 (H : Hp) (a : Addr) : aload Try.prog 65 (.pointer (some a)) H = (cellsAt H a 3).map fun c => .agg c.toArray := aload_agg ag65 sz65 a
theorem ap65 (cs : Array Value) (off : Nat) : apart Try.prog 65 cs off = if off + 3 ≤ cs.size then some (.agg (cs.extract off (off + 3))) else none := apart_agg ag65 sz65 cs off
theorem so65 (H : Hp) (b off : Nat) (x : Value) : astore Try.prog 65 (.pointer (some ⟨b, off, none⟩)) x H = match H.get b with | .cells true e c => (if x.cells.size = 3 ∧ isTup x = false ∧ off + 3 ≤ c.length then some (H.put b (.cells true e (setAll c off x.cells.toList))) else none) | _ => none := astore_sz sz65 b off x
theorem al65 (X : Outer) (ops : Array Oper) (dd : Option Tmp) (ty : TypeId) (pos : String) (af : Array Edge) (e : Env) (H : Hp) (K : Value → Hp → Prop) : Step Try.prog X ops ⟨dd, .alloc 65, ty, pos, af, none⟩ e H K = K (.pointer (some ⟨H.next, 0, none⟩)) (H.push (.cells true 65 [.int .i64 0, .int .i64 0, .string .empty])) := Step_alloc zt65 rfl
theorem fa65_0 (ρ : Operand → Value) (H : Hp) (x : Operand) : lop Try.prog ρ H (.fieldAddr 65 x 0) = match ρ x with | .pointer (some a) => (if a.spot = none then some (.pointer (some ⟨a.block, a.off + 0, none⟩)) else none) | _ => none := lop_fieldAddr x 0 0 1 pl65_0 (by decide)
theorem fd65_0 (ρ : Operand → Value) (H : Hp) (x : Operand) : lop Try.prog ρ H (.field 65 x 0) = match ρ x with | .agg cs => apart Try.prog 3 cs 0 | _ => none := lop_field x 0 0 1 3 pl65_0 ft65_0
theorem fa65_1 (ρ : Operand → Value) (H : Hp) (x : Operand) : lop Try.prog ρ H (.fieldAddr 65 x 1) = match ρ x with | .pointer (some a) => (if a.spot = none then some (.pointer (some ⟨a.block, a.off + 1, none⟩)) else none) | _ => none := lop_fieldAddr x 1 1 1 pl65_1 (by decide)
theorem fd65_1 (ρ : Operand → Value) (H : Hp) (x : Operand) : lop Try.prog ρ H (.field 65 x 1) = match ρ x with | .agg cs => apart Try.prog 3 cs 1 | _ => none := lop_field x 1 1 1 3 pl65_1 ft65_1
theorem fa65_2 (ρ : Operand → Value) (H : Hp) (x : Operand) : lop Try.prog ρ H (.fieldAddr 65 x 2) = match ρ x with | .pointer (some a) => (if a.spot = none then some (.pointer (some ⟨a.block, a.off + 2, none⟩)) else none) | _ => none := lop_fieldAddr x 2 2 1 pl65_2 (by decide)
theorem fd65_2 (ρ : Operand → Value) (H : Hp) (x : Operand) : lop Try.prog ρ H (.field 65 x 2) = match ρ x with | .agg cs => apart Try.prog 9 cs 2 | _ => none := lop_field x 2 2 1 9 pl65_2 ft65_2
theorem bd65 (ρ : Operand → Value) (H : Hp) (parts : Array (Nat × Operand)) : lop Try.prog ρ H (.build 65 parts) = if parts.toList.all (fun p => !isTup (ρ p.2)) then (afill (place Try.prog 65) (Value.cells (.agg #[.int .i64 0, .int .i64 0, .string .empty])).toList (parts.toList.map fun p => (p.1, ρ p.2))).map fun cs => .agg cs.toArray else none := lop_build parts _ zt65 sd65 rfl
theorem ld66 (H : Hp) (a : Addr) : aload Try.prog 66 (.pointer (some a)) H = (cellsAt H a 3).map fun c => .agg c.toArray := aload_agg ag66 sz66 a
theorem ap66 (cs : Array Value) (off : Nat) : apart Try.prog 66 cs off = if off + 3 ≤ cs.size then some (.agg (cs.extract off (off + 3))) else none := apart_agg ag66 sz66 cs off
theorem so66 (H : Hp) (b off : Nat) (x : Value) : astore Try.prog 66 (.pointer (some ⟨b, off, none⟩)) x H = match H.get b with | .cells true e c => (if x.cells.size = 3 ∧ isTup x = false ∧ off + 3 ≤ c.length then some (H.put b (.cells true e (setAll c off x.cells.toList))) else none) | _ => none := astore_sz sz66 b off x
theorem al66 (X : Outer) (ops : Array Oper) (dd : Option Tmp) (ty : TypeId) (pos : String) (af : Array Edge) (e : Env) (H : Hp) (K : Value → Hp → Prop) : Step Try.prog X ops ⟨dd, .alloc 66, ty, pos, af, none⟩ e H K = K (.pointer (some ⟨H.next, 0, none⟩)) (H.push (.cells true 66 [.int .i64 0, .int .i64 0, .string .empty])) := Step_alloc zt66 rfl
theorem fa66_0 (ρ : Operand → Value) (H : Hp) (x : Operand) : lop Try.prog ρ H (.fieldAddr 66 x 0) = match ρ x with | .pointer (some a) => (if a.spot = none then some (.pointer (some ⟨a.block, a.off + 0, none⟩)) else none) | _ => none := lop_fieldAddr x 0 0 1 pl66_0 (by decide)
theorem fd66_0 (ρ : Operand → Value) (H : Hp) (x : Operand) : lop Try.prog ρ H (.field 66 x 0) = match ρ x with | .agg cs => apart Try.prog 3 cs 0 | _ => none := lop_field x 0 0 1 3 pl66_0 ft66_0
theorem fa66_1 (ρ : Operand → Value) (H : Hp) (x : Operand) : lop Try.prog ρ H (.fieldAddr 66 x 1) = match ρ x with | .pointer (some a) => (if a.spot = none then some (.pointer (some ⟨a.block, a.off + 1, none⟩)) else none) | _ => none := lop_fieldAddr x 1 1 1 pl66_1 (by decide)
theorem fd66_1 (ρ : Operand → Value) (H : Hp) (x : Operand) : lop Try.prog ρ H (.field 66 x 1) = match ρ x with | .agg cs => apart Try.prog 3 cs 1 | _ => none := lop_field x 1 1 1 3 pl66_1 ft66_1
theorem fa66_2 (ρ : Operand → Value) (H : Hp) (x : Operand) : lop Try.prog ρ H (.fieldAddr 66 x 2) = match ρ x with | .pointer (some a) => (if a.spot = none then some (.pointer (some ⟨a.block, a.off + 2, none⟩)) else none) | _ => none := lop_fieldAddr x 2 2 1 pl66_2 (by decide)
theorem fd66_2 (ρ : Operand → Value) (H : Hp) (x : Operand) : lop Try.prog ρ H (.field 66 x 2) = match ρ x with | .agg cs => apart Try.prog 9 cs 2 | _ => none := lop_field x 2 2 1 9 pl66_2 ft66_2
theorem bd66 (ρ : Operand → Value) (H : Hp) (parts : Array (Nat × Operand)) : lop Try.prog ρ H (.build 66 parts) = if parts.toList.all (fun p => !isTup (ρ p.2)) then (afill (place Try.prog 66) (Value.cells (.agg #[.int .i64 0, .int .i64 0, .string .empty])).toList (parts.toList.map fun p => (p.1, ρ p.2))).map fun cs => .agg cs.toArray else none := lop_build parts _ zt66 sd66 rfl
theorem ld67 (H : Hp) (a : Addr) : aload Try.prog 67 (.pointer (some a)) H = cellAt H a := aload_cell ag67 kn67 a
theorem ap67 (cs : Array Value) (off : Nat) : apart Try.prog 67 cs off = cs[off]? := apart_cell ag67 kn67 cs off
theorem so67 (H : Hp) (b off : Nat) (x : Value) : astore Try.prog 67 (.pointer (some ⟨b, off, none⟩)) x H = match H.get b with | .cells true e c => (if x.cells.size = 1 ∧ isTup x = false ∧ off + 1 ≤ c.length then some (H.put b (.cells true e (setAll c off x.cells.toList))) else none) | _ => none := astore_sz sz67 b off x
theorem al67 (X : Outer) (ops : Array Oper) (dd : Option Tmp) (ty : TypeId) (pos : String) (af : Array Edge) (e : Env) (H : Hp) (K : Value → Hp → Prop) : Step Try.prog X ops ⟨dd, .alloc 67, ty, pos, af, none⟩ e H K = K (.pointer (some ⟨H.next, 0, none⟩)) (H.push (.cells true 67 [.nilFunc])) := Step_alloc zt67 rfl
theorem ld68 (H : Hp) (a : Addr) : aload Try.prog 68 (.pointer (some a)) H = cellAt H a := aload_cell ag68 kn68 a
theorem ap68 (cs : Array Value) (off : Nat) : apart Try.prog 68 cs off = cs[off]? := apart_cell ag68 kn68 cs off
theorem so68 (H : Hp) (b off : Nat) (x : Value) : astore Try.prog 68 (.pointer (some ⟨b, off, none⟩)) x H = match H.get b with | .cells true e c => (if x.cells.size = 1 ∧ isTup x = false ∧ off + 1 ≤ c.length then some (H.put b (.cells true e (setAll c off x.cells.toList))) else none) | _ => none := astore_sz sz68 b off x
theorem al68 (X : Outer) (ops : Array Oper) (dd : Option Tmp) (ty : TypeId) (pos : String) (af : Array Edge) (e : Env) (H : Hp) (K : Value → Hp → Prop) : Step Try.prog X ops ⟨dd, .alloc 68, ty, pos, af, none⟩ e H K = K (.pointer (some ⟨H.next, 0, none⟩)) (H.push (.cells true 68 [.slice none 0 0])) := Step_alloc zt68 rfl
theorem ix68 (b off n : Nat) (k : IntKind) (j : Int) : aindexAddr Try.prog 68 (.slice (some ⟨b, off, none⟩) n 6) (.int k j) = if 0 ≤ j ∧ j < n then some (.pointer (some ⟨b, off + j.toNat * 6, none⟩)) else none := aindexAddr_slice el68 sz76 b off n k j
theorem sl68 (b off n : Nat) (lo hi : Option Value) : aslice Try.prog 68 (.slice (some ⟨b, off, none⟩) n 6) lo hi none = (abound hi n).bind fun h => (abound lo 0).bind fun l => if 0 ≤ l ∧ l ≤ h ∧ h ≤ n then some (.slice (some ⟨b, off + l.toNat * 6, none⟩) (h - l).toNat 6) else none := aslice_slice el68 sz76 b off n lo hi
theorem sn68 (lo hi : Option Value) : aslice Try.prog 68 (.slice none 0 0) lo hi none = (abound hi 0).bind fun h => (abound lo 0).bind fun l => if 0 ≤ l ∧ l ≤ h ∧ h ≤ 0 then some (.slice none 0 0) else none := aslice_nil el68 sz76 lo hi
theorem gr68 (H : Hp) (s x : Value) : aappend Try.prog 68 68 s x H = (acells 6 x (alenOf x) H).bind fun new => agrow2 76 6 64 s (alenOf x) new H := aappend_eq el68 if68 tk68 s x
theorem bs68 (len : Nat) (parts : List (Nat × Value)) (hl : len * 6 ≤ 16777216) : abuild Try.prog 68 len parts = if parts.all (fun p => !isTup p.2) then (afill (fun i => some (i * 6, 6)) (List.replicate len (Value.cells (.agg #[.string .empty, .int .i64 0, .int .i64 0, .int .i64 0, .int .i64 0, .string .empty])).toList).flatten parts).map fun cs => (6, 76, cs) else none := abuild_eq el68 if68 zu68 rfl len parts hl
theorem ln68 (H : Hp) (p : Option Addr) (n c : Nat) : alen Try.prog 68 (.slice p n c) H = some (.int .i64 n) := alen_slice el68 p n c
theorem ld69 (H : Hp) (a : Addr) : aload Try.prog 69 (.pointer (some a)) H = (cellsAt H a 4).map fun c => .agg c.toArray := aload_agg ag69 sz69 a
theorem ap69 (cs : Array Value) (off : Nat) : apart Try.prog 69 cs off = if off + 4 ≤ cs.size then some (.agg (cs.extract off (off + 4))) else none := apart_agg ag69 sz69 cs off
theorem so69 (H : Hp) (b off : Nat) (x : Value) : astore Try.prog 69 (.pointer (some ⟨b, off, none⟩)) x H = match H.get b with | .cells true e c => (if x.cells.size = 4 ∧ isTup x = false ∧ off + 4 ≤ c.length then some (H.put b (.cells true e (setAll c off x.cells.toList))) else none) | _ => none := astore_sz sz69 b off x
theorem al69 (X : Outer) (ops : Array Oper) (dd : Option Tmp) (ty : TypeId) (pos : String) (af : Array Edge) (e : Env) (H : Hp) (K : Value → Hp → Prop) : Step Try.prog X ops ⟨dd, .alloc 69, ty, pos, af, none⟩ e H K = K (.pointer (some ⟨H.next, 0, none⟩)) (H.push (.cells true 69 [.int .i64 0, .int .i64 0, .int .i64 0, .slice none 0 0])) := Step_alloc zt69 rfl
theorem fa69_0 (ρ : Operand → Value) (H : Hp) (x : Operand) : lop Try.prog ρ H (.fieldAddr 69 x 0) = match ρ x with | .pointer (some a) => (if a.spot = none then some (.pointer (some ⟨a.block, a.off + 0, none⟩)) else none) | _ => none := lop_fieldAddr x 0 0 1 pl69_0 (by decide)
theorem fd69_0 (ρ : Operand → Value) (H : Hp) (x : Operand) : lop Try.prog ρ H (.field 69 x 0) = match ρ x with | .agg cs => apart Try.prog 3 cs 0 | _ => none := lop_field x 0 0 1 3 pl69_0 ft69_0
theorem fa69_1 (ρ : Operand → Value) (H : Hp) (x : Operand) : lop Try.prog ρ H (.fieldAddr 69 x 1) = match ρ x with | .pointer (some a) => (if a.spot = none then some (.pointer (some ⟨a.block, a.off + 1, none⟩)) else none) | _ => none := lop_fieldAddr x 1 1 1 pl69_1 (by decide)
theorem fd69_1 (ρ : Operand → Value) (H : Hp) (x : Operand) : lop Try.prog ρ H (.field 69 x 1) = match ρ x with | .agg cs => apart Try.prog 3 cs 1 | _ => none := lop_field x 1 1 1 3 pl69_1 ft69_1
theorem fa69_2 (ρ : Operand → Value) (H : Hp) (x : Operand) : lop Try.prog ρ H (.fieldAddr 69 x 2) = match ρ x with | .pointer (some a) => (if a.spot = none then some (.pointer (some ⟨a.block, a.off + 2, none⟩)) else none) | _ => none := lop_fieldAddr x 2 2 1 pl69_2 (by decide)
theorem fd69_2 (ρ : Operand → Value) (H : Hp) (x : Operand) : lop Try.prog ρ H (.field 69 x 2) = match ρ x with | .agg cs => apart Try.prog 49 cs 2 | _ => none := lop_field x 2 2 1 49 pl69_2 ft69_2
theorem fa69_3 (ρ : Operand → Value) (H : Hp) (x : Operand) : lop Try.prog ρ H (.fieldAddr 69 x 3) = match ρ x with | .pointer (some a) => (if a.spot = none then some (.pointer (some ⟨a.block, a.off + 3, none⟩)) else none) | _ => none := lop_fieldAddr x 3 3 1 pl69_3 (by decide)
theorem fd69_3 (ρ : Operand → Value) (H : Hp) (x : Operand) : lop Try.prog ρ H (.field 69 x 3) = match ρ x with | .agg cs => apart Try.prog 68 cs 3 | _ => none := lop_field x 3 3 1 68 pl69_3 ft69_3
theorem bd69 (ρ : Operand → Value) (H : Hp) (parts : Array (Nat × Operand)) : lop Try.prog ρ H (.build 69 parts) = if parts.toList.all (fun p => !isTup (ρ p.2)) then (afill (place Try.prog 69) (Value.cells (.agg #[.int .i64 0, .int .i64 0, .int .i64 0, .slice none 0 0])).toList (parts.toList.map fun p => (p.1, ρ p.2))).map fun cs => .agg cs.toArray else none := lop_build parts _ zt69 sd69 rfl
theorem ld70 (H : Hp) (a : Addr) : aload Try.prog 70 (.pointer (some a)) H = (cellsAt H a 4).map fun c => .agg c.toArray := aload_agg ag70 sz70 a
theorem ap70 (cs : Array Value) (off : Nat) : apart Try.prog 70 cs off = if off + 4 ≤ cs.size then some (.agg (cs.extract off (off + 4))) else none := apart_agg ag70 sz70 cs off
theorem so70 (H : Hp) (b off : Nat) (x : Value) : astore Try.prog 70 (.pointer (some ⟨b, off, none⟩)) x H = match H.get b with | .cells true e c => (if x.cells.size = 4 ∧ isTup x = false ∧ off + 4 ≤ c.length then some (H.put b (.cells true e (setAll c off x.cells.toList))) else none) | _ => none := astore_sz sz70 b off x
theorem al70 (X : Outer) (ops : Array Oper) (dd : Option Tmp) (ty : TypeId) (pos : String) (af : Array Edge) (e : Env) (H : Hp) (K : Value → Hp → Prop) : Step Try.prog X ops ⟨dd, .alloc 70, ty, pos, af, none⟩ e H K = K (.pointer (some ⟨H.next, 0, none⟩)) (H.push (.cells true 70 [.int .i64 0, .int .i64 0, .int .i64 0, .slice none 0 0])) := Step_alloc zt70 rfl
theorem fa70_0 (ρ : Operand → Value) (H : Hp) (x : Operand) : lop Try.prog ρ H (.fieldAddr 70 x 0) = match ρ x with | .pointer (some a) => (if a.spot = none then some (.pointer (some ⟨a.block, a.off + 0, none⟩)) else none) | _ => none := lop_fieldAddr x 0 0 1 pl70_0 (by decide)
theorem fd70_0 (ρ : Operand → Value) (H : Hp) (x : Operand) : lop Try.prog ρ H (.field 70 x 0) = match ρ x with | .agg cs => apart Try.prog 3 cs 0 | _ => none := lop_field x 0 0 1 3 pl70_0 ft70_0
theorem fa70_1 (ρ : Operand → Value) (H : Hp) (x : Operand) : lop Try.prog ρ H (.fieldAddr 70 x 1) = match ρ x with | .pointer (some a) => (if a.spot = none then some (.pointer (some ⟨a.block, a.off + 1, none⟩)) else none) | _ => none := lop_fieldAddr x 1 1 1 pl70_1 (by decide)
theorem fd70_1 (ρ : Operand → Value) (H : Hp) (x : Operand) : lop Try.prog ρ H (.field 70 x 1) = match ρ x with | .agg cs => apart Try.prog 3 cs 1 | _ => none := lop_field x 1 1 1 3 pl70_1 ft70_1
theorem fa70_2 (ρ : Operand → Value) (H : Hp) (x : Operand) : lop Try.prog ρ H (.fieldAddr 70 x 2) = match ρ x with | .pointer (some a) => (if a.spot = none then some (.pointer (some ⟨a.block, a.off + 2, none⟩)) else none) | _ => none := lop_fieldAddr x 2 2 1 pl70_2 (by decide)
theorem fd70_2 (ρ : Operand → Value) (H : Hp) (x : Operand) : lop Try.prog ρ H (.field 70 x 2) = match ρ x with | .agg cs => apart Try.prog 49 cs 2 | _ => none := lop_field x 2 2 1 49 pl70_2 ft70_2
theorem fa70_3 (ρ : Operand → Value) (H : Hp) (x : Operand) : lop Try.prog ρ H (.fieldAddr 70 x 3) = match ρ x with | .pointer (some a) => (if a.spot = none then some (.pointer (some ⟨a.block, a.off + 3, none⟩)) else none) | _ => none := lop_fieldAddr x 3 3 1 pl70_3 (by decide)
theorem fd70_3 (ρ : Operand → Value) (H : Hp) (x : Operand) : lop Try.prog ρ H (.field 70 x 3) = match ρ x with | .agg cs => apart Try.prog 68 cs 3 | _ => none := lop_field x 3 3 1 68 pl70_3 ft70_3
theorem bd70 (ρ : Operand → Value) (H : Hp) (parts : Array (Nat × Operand)) : lop Try.prog ρ H (.build 70 parts) = if parts.toList.all (fun p => !isTup (ρ p.2)) then (afill (place Try.prog 70) (Value.cells (.agg #[.int .i64 0, .int .i64 0, .int .i64 0, .slice none 0 0])).toList (parts.toList.map fun p => (p.1, ρ p.2))).map fun cs => .agg cs.toArray else none := lop_build parts _ zt70 sd70 rfl
theorem ld71 (H : Hp) (a : Addr) : aload Try.prog 71 (.pointer (some a)) H = cellAt H a := aload_cell ag71 kn71 a
theorem ap71 (cs : Array Value) (off : Nat) : apart Try.prog 71 cs off = cs[off]? := apart_cell ag71 kn71 cs off
theorem so71 (H : Hp) (b off : Nat) (x : Value) : astore Try.prog 71 (.pointer (some ⟨b, off, none⟩)) x H = match H.get b with | .cells true e c => (if x.cells.size = 1 ∧ isTup x = false ∧ off + 1 ≤ c.length then some (H.put b (.cells true e (setAll c off x.cells.toList))) else none) | _ => none := astore_sz sz71 b off x
theorem al71 (X : Outer) (ops : Array Oper) (dd : Option Tmp) (ty : TypeId) (pos : String) (af : Array Edge) (e : Env) (H : Hp) (K : Value → Hp → Prop) : Step Try.prog X ops ⟨dd, .alloc 71, ty, pos, af, none⟩ e H K = K (.pointer (some ⟨H.next, 0, none⟩)) (H.push (.cells true 71 [.nilFunc])) := Step_alloc zt71 rfl
theorem ld72 (H : Hp) (a : Addr) : aload Try.prog 72 (.pointer (some a)) H = cellAt H a := aload_cell ag72 kn72 a
theorem ap72 (cs : Array Value) (off : Nat) : apart Try.prog 72 cs off = cs[off]? := apart_cell ag72 kn72 cs off
theorem so72 (H : Hp) (b off : Nat) (x : Value) : astore Try.prog 72 (.pointer (some ⟨b, off, none⟩)) x H = match H.get b with | .cells true e c => (if x.cells.size = 1 ∧ isTup x = false ∧ off + 1 ≤ c.length then some (H.put b (.cells true e (setAll c off x.cells.toList))) else none) | _ => none := astore_sz sz72 b off x
theorem ld73 (H : Hp) (a : Addr) : aload Try.prog 73 (.pointer (some a)) H = cellAt H a := aload_cell ag73 kn73 a
theorem ap73 (cs : Array Value) (off : Nat) : apart Try.prog 73 cs off = cs[off]? := apart_cell ag73 kn73 cs off
theorem so73 (H : Hp) (b off : Nat) (x : Value) : astore Try.prog 73 (.pointer (some ⟨b, off, none⟩)) x H = match H.get b with | .cells true e c => (if x.cells.size = 1 ∧ isTup x = false ∧ off + 1 ≤ c.length then some (H.put b (.cells true e (setAll c off x.cells.toList))) else none) | _ => none := astore_sz sz73 b off x
theorem al73 (X : Outer) (ops : Array Oper) (dd : Option Tmp) (ty : TypeId) (pos : String) (af : Array Edge) (e : Env) (H : Hp) (K : Value → Hp → Prop) : Step Try.prog X ops ⟨dd, .alloc 73, ty, pos, af, none⟩ e H K = K (.pointer (some ⟨H.next, 0, none⟩)) (H.push (.cells true 73 [.nilFunc])) := Step_alloc zt73 rfl
theorem ld74 (H : Hp) (a : Addr) : aload Try.prog 74 (.pointer (some a)) H = cellAt H a := aload_cell ag74 kn74 a
theorem ap74 (cs : Array Value) (off : Nat) : apart Try.prog 74 cs off = cs[off]? := apart_cell ag74 kn74 cs off
theorem so74 (H : Hp) (b off : Nat) (x : Value) : astore Try.prog 74 (.pointer (some ⟨b, off, none⟩)) x H = match H.get b with | .cells true e c => (if x.cells.size = 1 ∧ isTup x = false ∧ off + 1 ≤ c.length then some (H.put b (.cells true e (setAll c off x.cells.toList))) else none) | _ => none := astore_sz sz74 b off x
theorem al74 (X : Outer) (ops : Array Oper) (dd : Option Tmp) (ty : TypeId) (pos : String) (af : Array Edge) (e : Env) (H : Hp) (K : Value → Hp → Prop) : Step Try.prog X ops ⟨dd, .alloc 74, ty, pos, af, none⟩ e H K = K (.pointer (some ⟨H.next, 0, none⟩)) (H.push (.cells true 74 [.nilFunc])) := Step_alloc zt74 rfl
theorem ld75 (H : Hp) (a : Addr) : aload Try.prog 75 (.pointer (some a)) H = (cellsAt H a 6).map fun c => .agg c.toArray := aload_agg ag75 sz75 a
theorem ap75 (cs : Array Value) (off : Nat) : apart Try.prog 75 cs off = if off + 6 ≤ cs.size then some (.agg (cs.extract off (off + 6))) else none := apart_agg ag75 sz75 cs off
theorem so75 (H : Hp) (b off : Nat) (x : Value) : astore Try.prog 75 (.pointer (some ⟨b, off, none⟩)) x H = match H.get b with | .cells true e c => (if x.cells.size = 6 ∧ isTup x = false ∧ off + 6 ≤ c.length then some (H.put b (.cells true e (setAll c off x.cells.toList))) else none) | _ => none := astore_sz sz75 b off x
theorem al75 (X : Outer) (ops : Array Oper) (dd : Option Tmp) (ty : TypeId) (pos : String) (af : Array Edge) (e : Env) (H : Hp) (K : Value → Hp → Prop) : Step Try.prog X ops ⟨dd, .alloc 75, ty, pos, af, none⟩ e H K = K (.pointer (some ⟨H.next, 0, none⟩)) (H.push (.cells true 75 [.string .empty, .int .i64 0, .int .i64 0, .int .i64 0, .int .i64 0, .string .empty])) := Step_alloc zt75 rfl
theorem fa75_0 (ρ : Operand → Value) (H : Hp) (x : Operand) : lop Try.prog ρ H (.fieldAddr 75 x 0) = match ρ x with | .pointer (some a) => (if a.spot = none then some (.pointer (some ⟨a.block, a.off + 0, none⟩)) else none) | _ => none := lop_fieldAddr x 0 0 3 pl75_0 (by decide)
theorem fd75_0 (ρ : Operand → Value) (H : Hp) (x : Operand) : lop Try.prog ρ H (.field 75 x 0) = match ρ x with | .agg cs => apart Try.prog 32 cs 0 | _ => none := lop_field x 0 0 3 32 pl75_0 ft75_0
theorem fa75_1 (ρ : Operand → Value) (H : Hp) (x : Operand) : lop Try.prog ρ H (.fieldAddr 75 x 1) = match ρ x with | .pointer (some a) => (if a.spot = none then some (.pointer (some ⟨a.block, a.off + 3, none⟩)) else none) | _ => none := lop_fieldAddr x 1 3 3 pl75_1 (by decide)
theorem fd75_1 (ρ : Operand → Value) (H : Hp) (x : Operand) : lop Try.prog ρ H (.field 75 x 1) = match ρ x with | .agg cs => apart Try.prog 34 cs 3 | _ => none := lop_field x 1 3 3 34 pl75_1 ft75_1
theorem bd75 (ρ : Operand → Value) (H : Hp) (parts : Array (Nat × Operand)) : lop Try.prog ρ H (.build 75 parts) = if parts.toList.all (fun p => !isTup (ρ p.2)) then (afill (place Try.prog 75) (Value.cells (.agg #[.string .empty, .int .i64 0, .int .i64 0, .int .i64 0, .int .i64 0, .string .empty])).toList (parts.toList.map fun p => (p.1, ρ p.2))).map fun cs => .agg cs.toArray else none := lop_build parts _ zt75 sd75 rfl
theorem ld76 (H : Hp) (a : Addr) : aload Try.prog 76 (.pointer (some a)) H = (cellsAt H a 6).map fun c => .agg c.toArray := aload_agg ag76 sz76 a
theorem ap76 (cs : Array Value) (off : Nat) : apart Try.prog 76 cs off = if off + 6 ≤ cs.size then some (.agg (cs.extract off (off + 6))) else none := apart_agg ag76 sz76 cs off
theorem so76 (H : Hp) (b off : Nat) (x : Value) : astore Try.prog 76 (.pointer (some ⟨b, off, none⟩)) x H = match H.get b with | .cells true e c => (if x.cells.size = 6 ∧ isTup x = false ∧ off + 6 ≤ c.length then some (H.put b (.cells true e (setAll c off x.cells.toList))) else none) | _ => none := astore_sz sz76 b off x
theorem al76 (X : Outer) (ops : Array Oper) (dd : Option Tmp) (ty : TypeId) (pos : String) (af : Array Edge) (e : Env) (H : Hp) (K : Value → Hp → Prop) : Step Try.prog X ops ⟨dd, .alloc 76, ty, pos, af, none⟩ e H K = K (.pointer (some ⟨H.next, 0, none⟩)) (H.push (.cells true 76 [.string .empty, .int .i64 0, .int .i64 0, .int .i64 0, .int .i64 0, .string .empty])) := Step_alloc zt76 rfl
theorem fa76_0 (ρ : Operand → Value) (H : Hp) (x : Operand) : lop Try.prog ρ H (.fieldAddr 76 x 0) = match ρ x with | .pointer (some a) => (if a.spot = none then some (.pointer (some ⟨a.block, a.off + 0, none⟩)) else none) | _ => none := lop_fieldAddr x 0 0 3 pl76_0 (by decide)
theorem fd76_0 (ρ : Operand → Value) (H : Hp) (x : Operand) : lop Try.prog ρ H (.field 76 x 0) = match ρ x with | .agg cs => apart Try.prog 32 cs 0 | _ => none := lop_field x 0 0 3 32 pl76_0 ft76_0
theorem fa76_1 (ρ : Operand → Value) (H : Hp) (x : Operand) : lop Try.prog ρ H (.fieldAddr 76 x 1) = match ρ x with | .pointer (some a) => (if a.spot = none then some (.pointer (some ⟨a.block, a.off + 3, none⟩)) else none) | _ => none := lop_fieldAddr x 1 3 3 pl76_1 (by decide)
theorem fd76_1 (ρ : Operand → Value) (H : Hp) (x : Operand) : lop Try.prog ρ H (.field 76 x 1) = match ρ x with | .agg cs => apart Try.prog 34 cs 3 | _ => none := lop_field x 1 3 3 34 pl76_1 ft76_1
theorem bd76 (ρ : Operand → Value) (H : Hp) (parts : Array (Nat × Operand)) : lop Try.prog ρ H (.build 76 parts) = if parts.toList.all (fun p => !isTup (ρ p.2)) then (afill (place Try.prog 76) (Value.cells (.agg #[.string .empty, .int .i64 0, .int .i64 0, .int .i64 0, .int .i64 0, .string .empty])).toList (parts.toList.map fun p => (p.1, ρ p.2))).map fun cs => .agg cs.toArray else none := lop_build parts _ zt76 sd76 rfl
theorem ld77 (H : Hp) (a : Addr) : aload Try.prog 77 (.pointer (some a)) H = cellAt H a := aload_cell ag77 kn77 a
theorem ap77 (cs : Array Value) (off : Nat) : apart Try.prog 77 cs off = cs[off]? := apart_cell ag77 kn77 cs off
theorem so77 (H : Hp) (b off : Nat) (x : Value) : astore Try.prog 77 (.pointer (some ⟨b, off, none⟩)) x H = match H.get b with | .cells true e c => (if x.cells.size = 1 ∧ isTup x = false ∧ off + 1 ≤ c.length then some (H.put b (.cells true e (setAll c off x.cells.toList))) else none) | _ => none := astore_sz sz77 b off x
theorem ld78 (H : Hp) (a : Addr) : aload Try.prog 78 (.pointer (some a)) H = cellAt H a := aload_cell ag78 kn78 a
theorem ap78 (cs : Array Value) (off : Nat) : apart Try.prog 78 cs off = cs[off]? := apart_cell ag78 kn78 cs off
theorem so78 (H : Hp) (b off : Nat) (x : Value) : astore Try.prog 78 (.pointer (some ⟨b, off, none⟩)) x H = match H.get b with | .cells true e c => (if x.cells.size = 1 ∧ isTup x = false ∧ off + 1 ≤ c.length then some (H.put b (.cells true e (setAll c off x.cells.toList))) else none) | _ => none := astore_sz sz78 b off x
theorem al78 (X : Outer) (ops : Array Oper) (dd : Option Tmp) (ty : TypeId) (pos : String) (af : Array Edge) (e : Env) (H : Hp) (K : Value → Hp → Prop) : Step Try.prog X ops ⟨dd, .alloc 78, ty, pos, af, none⟩ e H K = K (.pointer (some ⟨H.next, 0, none⟩)) (H.push (.cells true 78 [.nilFunc])) := Step_alloc zt78 rfl
theorem ld79 (H : Hp) (a : Addr) : aload Try.prog 79 (.pointer (some a)) H = cellAt H a := aload_cell ag79 kn79 a
theorem ap79 (cs : Array Value) (off : Nat) : apart Try.prog 79 cs off = cs[off]? := apart_cell ag79 kn79 cs off
theorem so79 (H : Hp) (b off : Nat) (x : Value) : astore Try.prog 79 (.pointer (some ⟨b, off, none⟩)) x H = match H.get b with | .cells true e c => (if x.cells.size = 1 ∧ isTup x = false ∧ off + 1 ≤ c.length then some (H.put b (.cells true e (setAll c off x.cells.toList))) else none) | _ => none := astore_sz sz79 b off x
theorem al79 (X : Outer) (ops : Array Oper) (dd : Option Tmp) (ty : TypeId) (pos : String) (af : Array Edge) (e : Env) (H : Hp) (K : Value → Hp → Prop) : Step Try.prog X ops ⟨dd, .alloc 79, ty, pos, af, none⟩ e H K = K (.pointer (some ⟨H.next, 0, none⟩)) (H.push (.cells true 79 [.nilFunc])) := Step_alloc zt79 rfl
theorem ld80 (H : Hp) (a : Addr) : aload Try.prog 80 (.pointer (some a)) H = cellAt H a := aload_cell ag80 kn80 a
theorem ap80 (cs : Array Value) (off : Nat) : apart Try.prog 80 cs off = cs[off]? := apart_cell ag80 kn80 cs off
theorem so80 (H : Hp) (b off : Nat) (x : Value) : astore Try.prog 80 (.pointer (some ⟨b, off, none⟩)) x H = match H.get b with | .cells true e c => (if x.cells.size = 1 ∧ isTup x = false ∧ off + 1 ≤ c.length then some (H.put b (.cells true e (setAll c off x.cells.toList))) else none) | _ => none := astore_sz sz80 b off x
theorem al80 (X : Outer) (ops : Array Oper) (dd : Option Tmp) (ty : TypeId) (pos : String) (af : Array Edge) (e : Env) (H : Hp) (K : Value → Hp → Prop) : Step Try.prog X ops ⟨dd, .alloc 80, ty, pos, af, none⟩ e H K = K (.pointer (some ⟨H.next, 0, none⟩)) (H.push (.cells true 80 [.nilFunc])) := Step_alloc zt80 rfl
theorem ld81 (H : Hp) (a : Addr) : aload Try.prog 81 (.pointer (some a)) H = cellAt H a := aload_cell ag81 kn81 a
theorem ap81 (cs : Array Value) (off : Nat) : apart Try.prog 81 cs off = cs[off]? := apart_cell ag81 kn81 cs off
theorem so81 (H : Hp) (b off : Nat) (x : Value) : astore Try.prog 81 (.pointer (some ⟨b, off, none⟩)) x H = match H.get b with | .cells true e c => (if x.cells.size = 1 ∧ isTup x = false ∧ off + 1 ≤ c.length then some (H.put b (.cells true e (setAll c off x.cells.toList))) else none) | _ => none := astore_sz sz81 b off x
theorem al81 (X : Outer) (ops : Array Oper) (dd : Option Tmp) (ty : TypeId) (pos : String) (af : Array Edge) (e : Env) (H : Hp) (K : Value → Hp → Prop) : Step Try.prog X ops ⟨dd, .alloc 81, ty, pos, af, none⟩ e H K = K (.pointer (some ⟨H.next, 0, none⟩)) (H.push (.cells true 81 [.pointer none])) := Step_alloc zt81 rfl
theorem ld82 (H : Hp) (a : Addr) : aload Try.prog 82 (.pointer (some a)) H = (cellsAt H a 2).map fun c => .agg c.toArray := aload_agg ag82 sz82 a
theorem ap82 (cs : Array Value) (off : Nat) : apart Try.prog 82 cs off = if off + 2 ≤ cs.size then some (.agg (cs.extract off (off + 2))) else none := apart_agg ag82 sz82 cs off
theorem so82 (H : Hp) (b off : Nat) (x : Value) : astore Try.prog 82 (.pointer (some ⟨b, off, none⟩)) x H = match H.get b with | .cells true e c => (if x.cells.size = 2 ∧ isTup x = false ∧ off + 2 ≤ c.length then some (H.put b (.cells true e (setAll c off x.cells.toList))) else none) | _ => none := astore_sz sz82 b off x
theorem al82 (X : Outer) (ops : Array Oper) (dd : Option Tmp) (ty : TypeId) (pos : String) (af : Array Edge) (e : Env) (H : Hp) (K : Value → Hp → Prop) : Step Try.prog X ops ⟨dd, .alloc 82, ty, pos, af, none⟩ e H K = K (.pointer (some ⟨H.next, 0, none⟩)) (H.push (.cells true 82 [.slice none 0 0, .bool false])) := Step_alloc zt82 rfl
theorem fa82_0 (ρ : Operand → Value) (H : Hp) (x : Operand) : lop Try.prog ρ H (.fieldAddr 82 x 0) = match ρ x with | .pointer (some a) => (if a.spot = none then some (.pointer (some ⟨a.block, a.off + 0, none⟩)) else none) | _ => none := lop_fieldAddr x 0 0 1 pl82_0 (by decide)
theorem fd82_0 (ρ : Operand → Value) (H : Hp) (x : Operand) : lop Try.prog ρ H (.field 82 x 0) = match ρ x with | .agg cs => apart Try.prog 47 cs 0 | _ => none := lop_field x 0 0 1 47 pl82_0 ft82_0
theorem fa82_1 (ρ : Operand → Value) (H : Hp) (x : Operand) : lop Try.prog ρ H (.fieldAddr 82 x 1) = match ρ x with | .pointer (some a) => (if a.spot = none then some (.pointer (some ⟨a.block, a.off + 1, none⟩)) else none) | _ => none := lop_fieldAddr x 1 1 1 pl82_1 (by decide)
theorem fd82_1 (ρ : Operand → Value) (H : Hp) (x : Operand) : lop Try.prog ρ H (.field 82 x 1) = match ρ x with | .agg cs => apart Try.prog 4 cs 1 | _ => none := lop_field x 1 1 1 4 pl82_1 ft82_1
theorem bd82 (ρ : Operand → Value) (H : Hp) (parts : Array (Nat × Operand)) : lop Try.prog ρ H (.build 82 parts) = if parts.toList.all (fun p => !isTup (ρ p.2)) then (afill (place Try.prog 82) (Value.cells (.agg #[.slice none 0 0, .bool false])).toList (parts.toList.map fun p => (p.1, ρ p.2))).map fun cs => .agg cs.toArray else none := lop_build parts _ zt82 sd82 rfl
theorem ld83 (H : Hp) (a : Addr) : aload Try.prog 83 (.pointer (some a)) H = (cellsAt H a 2).map fun c => .agg c.toArray := aload_agg ag83 sz83 a
theorem ap83 (cs : Array Value) (off : Nat) : apart Try.prog 83 cs off = if off + 2 ≤ cs.size then some (.agg (cs.extract off (off + 2))) else none := apart_agg ag83 sz83 cs off
theorem so83 (H : Hp) (b off : Nat) (x : Value) : astore Try.prog 83 (.pointer (some ⟨b, off, none⟩)) x H = match H.get b with | .cells true e c => (if x.cells.size = 2 ∧ isTup x = false ∧ off + 2 ≤ c.length then some (H.put b (.cells true e (setAll c off x.cells.toList))) else none) | _ => none := astore_sz sz83 b off x
theorem al83 (X : Outer) (ops : Array Oper) (dd : Option Tmp) (ty : TypeId) (pos : String) (af : Array Edge) (e : Env) (H : Hp) (K : Value → Hp → Prop) : Step Try.prog X ops ⟨dd, .alloc 83, ty, pos, af, none⟩ e H K = K (.pointer (some ⟨H.next, 0, none⟩)) (H.push (.cells true 83 [.slice none 0 0, .bool false])) := Step_alloc zt83 rfl
theorem fa83_0 (ρ : Operand → Value) (H : Hp) (x : Operand) : lop Try.prog ρ H (.fieldAddr 83 x 0) = match ρ x with | .pointer (some a) => (if a.spot = none then some (.pointer (some ⟨a.block, a.off + 0, none⟩)) else none) | _ => none := lop_fieldAddr x 0 0 1 pl83_0 (by decide)
theorem fd83_0 (ρ : Operand → Value) (H : Hp) (x : Operand) : lop Try.prog ρ H (.field 83 x 0) = match ρ x with | .agg cs => apart Try.prog 47 cs 0 | _ => none := lop_field x 0 0 1 47 pl83_0 ft83_0
theorem fa83_1 (ρ : Operand → Value) (H : Hp) (x : Operand) : lop Try.prog ρ H (.fieldAddr 83 x 1) = match ρ x with | .pointer (some a) => (if a.spot = none then some (.pointer (some ⟨a.block, a.off + 1, none⟩)) else none) | _ => none := lop_fieldAddr x 1 1 1 pl83_1 (by decide)
theorem fd83_1 (ρ : Operand → Value) (H : Hp) (x : Operand) : lop Try.prog ρ H (.field 83 x 1) = match ρ x with | .agg cs => apart Try.prog 4 cs 1 | _ => none := lop_field x 1 1 1 4 pl83_1 ft83_1
theorem bd83 (ρ : Operand → Value) (H : Hp) (parts : Array (Nat × Operand)) : lop Try.prog ρ H (.build 83 parts) = if parts.toList.all (fun p => !isTup (ρ p.2)) then (afill (place Try.prog 83) (Value.cells (.agg #[.slice none 0 0, .bool false])).toList (parts.toList.map fun p => (p.1, ρ p.2))).map fun cs => .agg cs.toArray else none := lop_build parts _ zt83 sd83 rfl
theorem ld84 (H : Hp) (a : Addr) : aload Try.prog 84 (.pointer (some a)) H = cellAt H a := aload_cell ag84 kn84 a
theorem ap84 (cs : Array Value) (off : Nat) : apart Try.prog 84 cs off = cs[off]? := apart_cell ag84 kn84 cs off
theorem so84 (H : Hp) (b off : Nat) (x : Value) : astore Try.prog 84 (.pointer (some ⟨b, off, none⟩)) x H = match H.get b with | .cells true e c => (if x.cells.size = 1 ∧ isTup x = false ∧ off + 1 ≤ c.length then some (H.put b (.cells true e (setAll c off x.cells.toList))) else none) | _ => none := astore_sz sz84 b off x
theorem al84 (X : Outer) (ops : Array Oper) (dd : Option Tmp) (ty : TypeId) (pos : String) (af : Array Edge) (e : Env) (H : Hp) (K : Value → Hp → Prop) : Step Try.prog X ops ⟨dd, .alloc 84, ty, pos, af, none⟩ e H K = K (.pointer (some ⟨H.next, 0, none⟩)) (H.push (.cells true 84 [.nilFunc])) := Step_alloc zt84 rfl
theorem ld85 (H : Hp) (a : Addr) : aload Try.prog 85 (.pointer (some a)) H = cellAt H a := aload_cell ag85 kn85 a
theorem ap85 (cs : Array Value) (off : Nat) : apart Try.prog 85 cs off = cs[off]? := apart_cell ag85 kn85 cs off
theorem so85 (H : Hp) (b off : Nat) (x : Value) : astore Try.prog 85 (.pointer (some ⟨b, off, none⟩)) x H = match H.get b with | .cells true e c => (if x.cells.size = 1 ∧ isTup x = false ∧ off + 1 ≤ c.length then some (H.put b (.cells true e (setAll c off x.cells.toList))) else none) | _ => none := astore_sz sz85 b off x
theorem al85 (X : Outer) (ops : Array Oper) (dd : Option Tmp) (ty : TypeId) (pos : String) (af : Array Edge) (e : Env) (H : Hp) (K : Value → Hp → Prop) : Step Try.prog X ops ⟨dd, .alloc 85, ty, pos, af, none⟩ e H K = K (.pointer (some ⟨H.next, 0, none⟩)) (H.push (.cells true 85 [.nilFunc])) := Step_alloc zt85 rfl
theorem ld86 (H : Hp) (a : Addr) : aload Try.prog 86 (.pointer (some a)) H = cellAt H a := aload_cell ag86 kn86 a
theorem ap86 (cs : Array Value) (off : Nat) : apart Try.prog 86 cs off = cs[off]? := apart_cell ag86 kn86 cs off
theorem so86 (H : Hp) (b off : Nat) (x : Value) : astore Try.prog 86 (.pointer (some ⟨b, off, none⟩)) x H = match H.get b with | .cells true e c => (if x.cells.size = 1 ∧ isTup x = false ∧ off + 1 ≤ c.length then some (H.put b (.cells true e (setAll c off x.cells.toList))) else none) | _ => none := astore_sz sz86 b off x
theorem al86 (X : Outer) (ops : Array Oper) (dd : Option Tmp) (ty : TypeId) (pos : String) (af : Array Edge) (e : Env) (H : Hp) (K : Value → Hp → Prop) : Step Try.prog X ops ⟨dd, .alloc 86, ty, pos, af, none⟩ e H K = K (.pointer (some ⟨H.next, 0, none⟩)) (H.push (.cells true 86 [.nilFunc])) := Step_alloc zt86 rfl
theorem ld87 (H : Hp) (a : Addr) : aload Try.prog 87 (.pointer (some a)) H = cellAt H a := aload_cell ag87 kn87 a
theorem ap87 (cs : Array Value) (off : Nat) : apart Try.prog 87 cs off = cs[off]? := apart_cell ag87 kn87 cs off
theorem so87 (H : Hp) (b off : Nat) (x : Value) : astore Try.prog 87 (.pointer (some ⟨b, off, none⟩)) x H = match H.get b with | .cells true e c => (if x.cells.size = 1 ∧ isTup x = false ∧ off + 1 ≤ c.length then some (H.put b (.cells true e (setAll c off x.cells.toList))) else none) | _ => none := astore_sz sz87 b off x
theorem al87 (X : Outer) (ops : Array Oper) (dd : Option Tmp) (ty : TypeId) (pos : String) (af : Array Edge) (e : Env) (H : Hp) (K : Value → Hp → Prop) : Step Try.prog X ops ⟨dd, .alloc 87, ty, pos, af, none⟩ e H K = K (.pointer (some ⟨H.next, 0, none⟩)) (H.push (.cells true 87 [.pointer none])) := Step_alloc zt87 rfl
theorem ld88 (H : Hp) (a : Addr) : aload Try.prog 88 (.pointer (some a)) H = (cellsAt H a 2).map fun c => .agg c.toArray := aload_agg ag88 sz88 a
theorem ap88 (cs : Array Value) (off : Nat) : apart Try.prog 88 cs off = if off + 2 ≤ cs.size then some (.agg (cs.extract off (off + 2))) else none := apart_agg ag88 sz88 cs off
theorem so88 (H : Hp) (b off : Nat) (x : Value) : astore Try.prog 88 (.pointer (some ⟨b, off, none⟩)) x H = match H.get b with | .cells true e c => (if x.cells.size = 2 ∧ isTup x = false ∧ off + 2 ≤ c.length then some (H.put b (.cells true e (setAll c off x.cells.toList))) else none) | _ => none := astore_sz sz88 b off x
theorem al88 (X : Outer) (ops : Array Oper) (dd : Option Tmp) (ty : TypeId) (pos : String) (af : Array Edge) (e : Env) (H : Hp) (K : Value → Hp → Prop) : Step Try.prog X ops ⟨dd, .alloc 88, ty, pos, af, none⟩ e H K = K (.pointer (some ⟨H.next, 0, none⟩)) (H.push (.cells true 88 [.slice none 0 0, .bool false])) := Step_alloc zt88 rfl
theorem fa88_0 (ρ : Operand → Value) (H : Hp) (x : Operand) : lop Try.prog ρ H (.fieldAddr 88 x 0) = match ρ x with | .pointer (some a) => (if a.spot = none then some (.pointer (some ⟨a.block, a.off + 0, none⟩)) else none) | _ => none := lop_fieldAddr x 0 0 1 pl88_0 (by decide)
theorem fd88_0 (ρ : Operand → Value) (H : Hp) (x : Operand) : lop Try.prog ρ H (.field 88 x 0) = match ρ x with | .agg cs => apart Try.prog 47 cs 0 | _ => none := lop_field x 0 0 1 47 pl88_0 ft88_0
theorem fa88_1 (ρ : Operand → Value) (H : Hp) (x : Operand) : lop Try.prog ρ H (.fieldAddr 88 x 1) = match ρ x with | .pointer (some a) => (if a.spot = none then some (.pointer (some ⟨a.block, a.off + 1, none⟩)) else none) | _ => none := lop_fieldAddr x 1 1 1 pl88_1 (by decide)
theorem fd88_1 (ρ : Operand → Value) (H : Hp) (x : Operand) : lop Try.prog ρ H (.field 88 x 1) = match ρ x with | .agg cs => apart Try.prog 4 cs 1 | _ => none := lop_field x 1 1 1 4 pl88_1 ft88_1
theorem bd88 (ρ : Operand → Value) (H : Hp) (parts : Array (Nat × Operand)) : lop Try.prog ρ H (.build 88 parts) = if parts.toList.all (fun p => !isTup (ρ p.2)) then (afill (place Try.prog 88) (Value.cells (.agg #[.slice none 0 0, .bool false])).toList (parts.toList.map fun p => (p.1, ρ p.2))).map fun cs => .agg cs.toArray else none := lop_build parts _ zt88 sd88 rfl
theorem ld89 (H : Hp) (a : Addr) : aload Try.prog 89 (.pointer (some a)) H = cellAt H a := aload_cell ag89 kn89 a
theorem ap89 (cs : Array Value) (off : Nat) : apart Try.prog 89 cs off = cs[off]? := apart_cell ag89 kn89 cs off
theorem so89 (H : Hp) (b off : Nat) (x : Value) : astore Try.prog 89 (.pointer (some ⟨b, off, none⟩)) x H = match H.get b with | .cells true e c => (if x.cells.size = 1 ∧ isTup x = false ∧ off + 1 ≤ c.length then some (H.put b (.cells true e (setAll c off x.cells.toList))) else none) | _ => none := astore_sz sz89 b off x
theorem al89 (X : Outer) (ops : Array Oper) (dd : Option Tmp) (ty : TypeId) (pos : String) (af : Array Edge) (e : Env) (H : Hp) (K : Value → Hp → Prop) : Step Try.prog X ops ⟨dd, .alloc 89, ty, pos, af, none⟩ e H K = K (.pointer (some ⟨H.next, 0, none⟩)) (H.push (.cells true 89 [.nilFunc])) := Step_alloc zt89 rfl
theorem ld90 (H : Hp) (a : Addr) : aload Try.prog 90 (.pointer (some a)) H = cellAt H a := aload_cell ag90 kn90 a
theorem ap90 (cs : Array Value) (off : Nat) : apart Try.prog 90 cs off = cs[off]? := apart_cell ag90 kn90 cs off
theorem so90 (H : Hp) (b off : Nat) (x : Value) : astore Try.prog 90 (.pointer (some ⟨b, off, none⟩)) x H = match H.get b with | .cells true e c => (if x.cells.size = 1 ∧ isTup x = false ∧ off + 1 ≤ c.length then some (H.put b (.cells true e (setAll c off x.cells.toList))) else none) | _ => none := astore_sz sz90 b off x
theorem al90 (X : Outer) (ops : Array Oper) (dd : Option Tmp) (ty : TypeId) (pos : String) (af : Array Edge) (e : Env) (H : Hp) (K : Value → Hp → Prop) : Step Try.prog X ops ⟨dd, .alloc 90, ty, pos, af, none⟩ e H K = K (.pointer (some ⟨H.next, 0, none⟩)) (H.push (.cells true 90 [.nilFunc])) := Step_alloc zt90 rfl
theorem ld91 (H : Hp) (a : Addr) : aload Try.prog 91 (.pointer (some a)) H = cellAt H a := aload_cell ag91 kn91 a
theorem ap91 (cs : Array Value) (off : Nat) : apart Try.prog 91 cs off = cs[off]? := apart_cell ag91 kn91 cs off
theorem so91 (H : Hp) (b off : Nat) (x : Value) : astore Try.prog 91 (.pointer (some ⟨b, off, none⟩)) x H = match H.get b with | .cells true e c => (if x.cells.size = 1 ∧ isTup x = false ∧ off + 1 ≤ c.length then some (H.put b (.cells true e (setAll c off x.cells.toList))) else none) | _ => none := astore_sz sz91 b off x
theorem al91 (X : Outer) (ops : Array Oper) (dd : Option Tmp) (ty : TypeId) (pos : String) (af : Array Edge) (e : Env) (H : Hp) (K : Value → Hp → Prop) : Step Try.prog X ops ⟨dd, .alloc 91, ty, pos, af, none⟩ e H K = K (.pointer (some ⟨H.next, 0, none⟩)) (H.push (.cells true 91 [.nilFunc])) := Step_alloc zt91 rfl
theorem ld92 (H : Hp) (a : Addr) : aload Try.prog 92 (.pointer (some a)) H = cellAt H a := aload_cell ag92 kn92 a
theorem ap92 (cs : Array Value) (off : Nat) : apart Try.prog 92 cs off = cs[off]? := apart_cell ag92 kn92 cs off
theorem so92 (H : Hp) (b off : Nat) (x : Value) : astore Try.prog 92 (.pointer (some ⟨b, off, none⟩)) x H = match H.get b with | .cells true e c => (if x.cells.size = 1 ∧ isTup x = false ∧ off + 1 ≤ c.length then some (H.put b (.cells true e (setAll c off x.cells.toList))) else none) | _ => none := astore_sz sz92 b off x
theorem al92 (X : Outer) (ops : Array Oper) (dd : Option Tmp) (ty : TypeId) (pos : String) (af : Array Edge) (e : Env) (H : Hp) (K : Value → Hp → Prop) : Step Try.prog X ops ⟨dd, .alloc 92, ty, pos, af, none⟩ e H K = K (.pointer (some ⟨H.next, 0, none⟩)) (H.push (.cells true 92 [.pointer none])) := Step_alloc zt92 rfl
theorem ld93 (H : Hp) (a : Addr) : aload Try.prog 93 (.pointer (some a)) H = (cellsAt H a 2).map fun c => .agg c.toArray := aload_agg ag93 sz93 a
theorem ap93 (cs : Array Value) (off : Nat) : apart Try.prog 93 cs off = if off + 2 ≤ cs.size then some (.agg (cs.extract off (off + 2))) else none := apart_agg ag93 sz93 cs off
theorem so93 (H : Hp) (b off : Nat) (x : Value) : astore Try.prog 93 (.pointer (some ⟨b, off, none⟩)) x H = match H.get b with | .cells true e c => (if x.cells.size = 2 ∧ isTup x = false ∧ off + 2 ≤ c.length then some (H.put b (.cells true e (setAll c off x.cells.toList))) else none) | _ => none := astore_sz sz93 b off x
theorem al93 (X : Outer) (ops : Array Oper) (dd : Option Tmp) (ty : TypeId) (pos : String) (af : Array Edge) (e : Env) (H : Hp) (K : Value → Hp → Prop) : Step Try.prog X ops ⟨dd, .alloc 93, ty, pos, af, none⟩ e H K = K (.pointer (some ⟨H.next, 0, none⟩)) (H.push (.cells true 93 [.slice none 0 0, .bool false])) := Step_alloc zt93 rfl
theorem fa93_0 (ρ : Operand → Value) (H : Hp) (x : Operand) : lop Try.prog ρ H (.fieldAddr 93 x 0) = match ρ x with | .pointer (some a) => (if a.spot = none then some (.pointer (some ⟨a.block, a.off + 0, none⟩)) else none) | _ => none := lop_fieldAddr x 0 0 1 pl93_0 (by decide)
theorem fd93_0 (ρ : Operand → Value) (H : Hp) (x : Operand) : lop Try.prog ρ H (.field 93 x 0) = match ρ x with | .agg cs => apart Try.prog 47 cs 0 | _ => none := lop_field x 0 0 1 47 pl93_0 ft93_0
theorem fa93_1 (ρ : Operand → Value) (H : Hp) (x : Operand) : lop Try.prog ρ H (.fieldAddr 93 x 1) = match ρ x with | .pointer (some a) => (if a.spot = none then some (.pointer (some ⟨a.block, a.off + 1, none⟩)) else none) | _ => none := lop_fieldAddr x 1 1 1 pl93_1 (by decide)
theorem fd93_1 (ρ : Operand → Value) (H : Hp) (x : Operand) : lop Try.prog ρ H (.field 93 x 1) = match ρ x with | .agg cs => apart Try.prog 4 cs 1 | _ => none := lop_field x 1 1 1 4 pl93_1 ft93_1
theorem bd93 (ρ : Operand → Value) (H : Hp) (parts : Array (Nat × Operand)) : lop Try.prog ρ H (.build 93 parts) = if parts.toList.all (fun p => !isTup (ρ p.2)) then (afill (place Try.prog 93) (Value.cells (.agg #[.slice none 0 0, .bool false])).toList (parts.toList.map fun p => (p.1, ρ p.2))).map fun cs => .agg cs.toArray else none := lop_build parts _ zt93 sd93 rfl
theorem ld94 (H : Hp) (a : Addr) : aload Try.prog 94 (.pointer (some a)) H = (cellsAt H a 2).map fun c => .agg c.toArray := aload_agg ag94 sz94 a
theorem ap94 (cs : Array Value) (off : Nat) : apart Try.prog 94 cs off = if off + 2 ≤ cs.size then some (.agg (cs.extract off (off + 2))) else none := apart_agg ag94 sz94 cs off
theorem so94 (H : Hp) (b off : Nat) (x : Value) : astore Try.prog 94 (.pointer (some ⟨b, off, none⟩)) x H = match H.get b with | .cells true e c => (if x.cells.size = 2 ∧ isTup x = false ∧ off + 2 ≤ c.length then some (H.put b (.cells true e (setAll c off x.cells.toList))) else none) | _ => none := astore_sz sz94 b off x
theorem al94 (X : Outer) (ops : Array Oper) (dd : Option Tmp) (ty : TypeId) (pos : String) (af : Array Edge) (e : Env) (H : Hp) (K : Value → Hp → Prop) : Step Try.prog X ops ⟨dd, .alloc 94, ty, pos, af, none⟩ e H K = K (.pointer (some ⟨H.next, 0, none⟩)) (H.push (.cells true 94 [.slice none 0 0, .bool false])) := Step_alloc zt94 rfl
theorem fa94_0 (ρ : Operand → Value) (H : Hp) (x : Operand) : lop Try.prog ρ H (.fieldAddr 94 x 0) = match ρ x with | .pointer (some a) => (if a.spot = none then some (.pointer (some ⟨a.block, a.off + 0, none⟩)) else none) | _ => none := lop_fieldAddr x 0 0 1 pl94_0 (by decide)
theorem fd94_0 (ρ : Operand → Value) (H : Hp) (x : Operand) : lop Try.prog ρ H (.field 94 x 0) = match ρ x with | .agg cs => apart Try.prog 47 cs 0 | _ => none := lop_field x 0 0 1 47 pl94_0 ft94_0
theorem fa94_1 (ρ : Operand → Value) (H : Hp) (x : Operand) : lop Try.prog ρ H (.fieldAddr 94 x 1) = match ρ x with | .pointer (some a) => (if a.spot = none then some (.pointer (some ⟨a.block, a.off + 1, none⟩)) else none) | _ => none := lop_fieldAddr x 1 1 1 pl94_1 (by decide)
theorem fd94_1 (ρ : Operand → Value) (H : Hp) (x : Operand) : lop Try.prog ρ H (.field 94 x 1) = match ρ x with | .agg cs => apart Try.prog 4 cs 1 | _ => none := lop_field x 1 1 1 4 pl94_1 ft94_1
theorem bd94 (ρ : Operand → Value) (H : Hp) (parts : Array (Nat × Operand)) : lop Try.prog ρ H (.build 94 parts) = if parts.toList.all (fun p => !isTup (ρ p.2)) then (afill (place Try.prog 94) (Value.cells (.agg #[.slice none 0 0, .bool false])).toList (parts.toList.map fun p => (p.1, ρ p.2))).map fun cs => .agg cs.toArray else none := lop_build parts _ zt94 sd94 rfl
theorem ld95 (H : Hp) (a : Addr) : aload Try.prog 95 (.pointer (some a)) H = cellAt H a := aload_cell ag95 kn95 a
theorem ap95 (cs : Array Value) (off : Nat) : apart Try.prog 95 cs off = cs[off]? := apart_cell ag95 kn95 cs off
theorem so95 (H : Hp) (b off : Nat) (x : Value) : astore Try.prog 95 (.pointer (some ⟨b, off, none⟩)) x H = match H.get b with | .cells true e c => (if x.cells.size = 1 ∧ isTup x = false ∧ off + 1 ≤ c.length then some (H.put b (.cells true e (setAll c off x.cells.toList))) else none) | _ => none := astore_sz sz95 b off x
theorem ld96 (H : Hp) (a : Addr) : aload Try.prog 96 (.pointer (some a)) H = cellAt H a := aload_cell ag96 kn96 a
theorem ap96 (cs : Array Value) (off : Nat) : apart Try.prog 96 cs off = cs[off]? := apart_cell ag96 kn96 cs off
theorem so96 (H : Hp) (b off : Nat) (x : Value) : astore Try.prog 96 (.pointer (some ⟨b, off, none⟩)) x H = match H.get b with | .cells true e c => (if x.cells.size = 1 ∧ isTup x = false ∧ off + 1 ≤ c.length then some (H.put b (.cells true e (setAll c off x.cells.toList))) else none) | _ => none := astore_sz sz96 b off x
theorem al96 (X : Outer) (ops : Array Oper) (dd : Option Tmp) (ty : TypeId) (pos : String) (af : Array Edge) (e : Env) (H : Hp) (K : Value → Hp → Prop) : Step Try.prog X ops ⟨dd, .alloc 96, ty, pos, af, none⟩ e H K = K (.pointer (some ⟨H.next, 0, none⟩)) (H.push (.cells true 96 [.nilFunc])) := Step_alloc zt96 rfl
theorem ld97 (H : Hp) (a : Addr) : aload Try.prog 97 (.pointer (some a)) H = cellAt H a := aload_cell ag97 kn97 a
theorem ap97 (cs : Array Value) (off : Nat) : apart Try.prog 97 cs off = cs[off]? := apart_cell ag97 kn97 cs off
theorem so97 (H : Hp) (b off : Nat) (x : Value) : astore Try.prog 97 (.pointer (some ⟨b, off, none⟩)) x H = match H.get b with | .cells true e c => (if x.cells.size = 1 ∧ isTup x = false ∧ off + 1 ≤ c.length then some (H.put b (.cells true e (setAll c off x.cells.toList))) else none) | _ => none := astore_sz sz97 b off x
theorem al97 (X : Outer) (ops : Array Oper) (dd : Option Tmp) (ty : TypeId) (pos : String) (af : Array Edge) (e : Env) (H : Hp) (K : Value → Hp → Prop) : Step Try.prog X ops ⟨dd, .alloc 97, ty, pos, af, none⟩ e H K = K (.pointer (some ⟨H.next, 0, none⟩)) (H.push (.cells true 97 [.nilFunc])) := Step_alloc zt97 rfl
theorem ld98 (H : Hp) (a : Addr) : aload Try.prog 98 (.pointer (some a)) H = cellAt H a := aload_cell ag98 kn98 a
theorem ap98 (cs : Array Value) (off : Nat) : apart Try.prog 98 cs off = cs[off]? := apart_cell ag98 kn98 cs off
theorem so98 (H : Hp) (b off : Nat) (x : Value) : astore Try.prog 98 (.pointer (some ⟨b, off, none⟩)) x H = match H.get b with | .cells true e c => (if x.cells.size = 1 ∧ isTup x = false ∧ off + 1 ≤ c.length then some (H.put b (.cells true e (setAll c off x.cells.toList))) else none) | _ => none := astore_sz sz98 b off x
theorem ld99 (H : Hp) (a : Addr) : aload Try.prog 99 (.pointer (some a)) H = cellAt H a := aload_cell ag99 kn99 a
theorem ap99 (cs : Array Value) (off : Nat) : apart Try.prog 99 cs off = cs[off]? := apart_cell ag99 kn99 cs off
theorem so99 (H : Hp) (b off : Nat) (x : Value) : astore Try.prog 99 (.pointer (some ⟨b, off, none⟩)) x H = match H.get b with | .cells true e c => (if x.cells.size = 1 ∧ isTup x = false ∧ off + 1 ≤ c.length then some (H.put b (.cells true e (setAll c off x.cells.toList))) else none) | _ => none := astore_sz sz99 b off x
theorem al99 (X : Outer) (ops : Array Oper) (dd : Option Tmp) (ty : TypeId) (pos : String) (af : Array Edge) (e : Env) (H : Hp) (K : Value → Hp → Prop) : Step Try.prog X ops ⟨dd, .alloc 99, ty, pos, af, none⟩ e H K = K (.pointer (some ⟨H.next, 0, none⟩)) (H.push (.cells true 99 [.nilFunc])) := Step_alloc zt99 rfl
theorem ld100 (H : Hp) (a : Addr) : aload Try.prog 100 (.pointer (some a)) H = cellAt H a := aload_cell ag100 kn100 a
theorem ap100 (cs : Array Value) (off : Nat) : apart Try.prog 100 cs off = cs[off]? := apart_cell ag100 kn100 cs off
theorem so100 (H : Hp) (b off : Nat) (x : Value) : astore Try.prog 100 (.pointer (some ⟨b, off, none⟩)) x H = match H.get b with | .cells true e c => (if x.cells.size = 1 ∧ isTup x = false ∧ off + 1 ≤ c.length then some (H.put b (.cells true e (setAll c off x.cells.toList))) else none) | _ => none := astore_sz sz100 b off x
theorem al100 (X : Outer) (ops : Array Oper) (dd : Option Tmp) (ty : TypeId) (pos : String) (af : Array Edge) (e : Env) (H : Hp) (K : Value → Hp → Prop) : Step Try.prog X ops ⟨dd, .alloc 100, ty, pos, af, none⟩ e H K = K (.pointer (some ⟨H.next, 0, none⟩)) (H.push (.cells true 100 [.nilFunc])) := Step_alloc zt100 rfl
theorem ld101 (H : Hp) (a : Addr) : aload Try.prog 101 (.pointer (some a)) H = cellAt H a := aload_cell ag101 kn101 a
theorem ap101 (cs : Array Value) (off : Nat) : apart Try.prog 101 cs off = cs[off]? := apart_cell ag101 kn101 cs off
theorem so101 (H : Hp) (b off : Nat) (x : Value) : astore Try.prog 101 (.pointer (some ⟨b, off, none⟩)) x H = match H.get b with | .cells true e c => (if x.cells.size = 1 ∧ isTup x = false ∧ off + 1 ≤ c.length then some (H.put b (.cells true e (setAll c off x.cells.toList))) else none) | _ => none := astore_sz sz101 b off x
theorem ld102 (H : Hp) (a : Addr) : aload Try.prog 102 (.pointer (some a)) H = cellAt H a := aload_cell ag102 kn102 a
theorem ap102 (cs : Array Value) (off : Nat) : apart Try.prog 102 cs off = cs[off]? := apart_cell ag102 kn102 cs off
theorem so102 (H : Hp) (b off : Nat) (x : Value) : astore Try.prog 102 (.pointer (some ⟨b, off, none⟩)) x H = match H.get b with | .cells true e c => (if x.cells.size = 1 ∧ isTup x = false ∧ off + 1 ≤ c.length then some (H.put b (.cells true e (setAll c off x.cells.toList))) else none) | _ => none := astore_sz sz102 b off x
theorem al102 (X : Outer) (ops : Array Oper) (dd : Option Tmp) (ty : TypeId) (pos : String) (af : Array Edge) (e : Env) (H : Hp) (K : Value → Hp → Prop) : Step Try.prog X ops ⟨dd, .alloc 102, ty, pos, af, none⟩ e H K = K (.pointer (some ⟨H.next, 0, none⟩)) (H.push (.cells true 102 [.nilFunc])) := Step_alloc zt102 rfl
theorem ld103 (H : Hp) (a : Addr) : aload Try.prog 103 (.pointer (some a)) H = cellAt H a := aload_cell ag103 kn103 a
theorem ap103 (cs : Array Value) (off : Nat) : apart Try.prog 103 cs off = cs[off]? := apart_cell ag103 kn103 cs off
theorem so103 (H : Hp) (b off : Nat) (x : Value) : astore Try.prog 103 (.pointer (some ⟨b, off, none⟩)) x H = match H.get b with | .cells true e c => (if x.cells.size = 1 ∧ isTup x = false ∧ off + 1 ≤ c.length then some (H.put b (.cells true e (setAll c off x.cells.toList))) else none) | _ => none := astore_sz sz103 b off x
theorem al103 (X : Outer) (ops : Array Oper) (dd : Option Tmp) (ty : TypeId) (pos : String) (af : Array Edge) (e : Env) (H : Hp) (K : Value → Hp → Prop) : Step Try.prog X ops ⟨dd, .alloc 103, ty, pos, af, none⟩ e H K = K (.pointer (some ⟨H.next, 0, none⟩)) (H.push (.cells true 103 [.nilFunc])) := Step_alloc zt103 rfl
theorem ld104 (H : Hp) (a : Addr) : aload Try.prog 104 (.pointer (some a)) H = cellAt H a := aload_cell ag104 kn104 a
theorem ap104 (cs : Array Value) (off : Nat) : apart Try.prog 104 cs off = cs[off]? := apart_cell ag104 kn104 cs off
theorem so104 (H : Hp) (b off : Nat) (x : Value) : astore Try.prog 104 (.pointer (some ⟨b, off, none⟩)) x H = match H.get b with | .cells true e c => (if x.cells.size = 1 ∧ isTup x = false ∧ off + 1 ≤ c.length then some (H.put b (.cells true e (setAll c off x.cells.toList))) else none) | _ => none := astore_sz sz104 b off x
theorem al104 (X : Outer) (ops : Array Oper) (dd : Option Tmp) (ty : TypeId) (pos : String) (af : Array Edge) (e : Env) (H : Hp) (K : Value → Hp → Prop) : Step Try.prog X ops ⟨dd, .alloc 104, ty, pos, af, none⟩ e H K = K (.pointer (some ⟨H.next, 0, none⟩)) (H.push (.cells true 104 [.int .u64 0])) := Step_alloc zt104 rfl
theorem ld105 (H : Hp) (a : Addr) : aload Try.prog 105 (.pointer (some a)) H = cellAt H a := aload_cell ag105 kn105 a
theorem ap105 (cs : Array Value) (off : Nat) : apart Try.prog 105 cs off = cs[off]? := apart_cell ag105 kn105 cs off
theorem so105 (H : Hp) (b off : Nat) (x : Value) : astore Try.prog 105 (.pointer (some ⟨b, off, none⟩)) x H = match H.get b with | .cells true e c => (if x.cells.size = 1 ∧ isTup x = false ∧ off + 1 ≤ c.length then some (H.put b (.cells true e (setAll c off x.cells.toList))) else none) | _ => none := astore_sz sz105 b off x
theorem al105 (X : Outer) (ops : Array Oper) (dd : Option Tmp) (ty : TypeId) (pos : String) (af : Array Edge) (e : Env) (H : Hp) (K : Value → Hp → Prop) : Step Try.prog X ops ⟨dd, .alloc 105, ty, pos, af, none⟩ e H K = K (.pointer (some ⟨H.next, 0, none⟩)) (H.push (.cells true 105 [.nilFunc])) := Step_alloc zt105 rfl
theorem ld106 (H : Hp) (a : Addr) : aload Try.prog 106 (.pointer (some a)) H = cellAt H a := aload_cell ag106 kn106 a
theorem ap106 (cs : Array Value) (off : Nat) : apart Try.prog 106 cs off = cs[off]? := apart_cell ag106 kn106 cs off
theorem so106 (H : Hp) (b off : Nat) (x : Value) : astore Try.prog 106 (.pointer (some ⟨b, off, none⟩)) x H = match H.get b with | .cells true e c => (if x.cells.size = 1 ∧ isTup x = false ∧ off + 1 ≤ c.length then some (H.put b (.cells true e (setAll c off x.cells.toList))) else none) | _ => none := astore_sz sz106 b off x
theorem al106 (X : Outer) (ops : Array Oper) (dd : Option Tmp) (ty : TypeId) (pos : String) (af : Array Edge) (e : Env) (H : Hp) (K : Value → Hp → Prop) : Step Try.prog X ops ⟨dd, .alloc 106, ty, pos, af, none⟩ e H K = K (.pointer (some ⟨H.next, 0, none⟩)) (H.push (.cells true 106 [.nilFunc])) := Step_alloc zt106 rfl
theorem ld107 (H : Hp) (a : Addr) : aload Try.prog 107 (.pointer (some a)) H = cellAt H a := aload_cell ag107 kn107 a
theorem ap107 (cs : Array Value) (off : Nat) : apart Try.prog 107 cs off = cs[off]? := apart_cell ag107 kn107 cs off
theorem so107 (H : Hp) (b off : Nat) (x : Value) : astore Try.prog 107 (.pointer (some ⟨b, off, none⟩)) x H = match H.get b with | .cells true e c => (if x.cells.size = 1 ∧ isTup x = false ∧ off + 1 ≤ c.length then some (H.put b (.cells true e (setAll c off x.cells.toList))) else none) | _ => none := astore_sz sz107 b off x
theorem al107 (X : Outer) (ops : Array Oper) (dd : Option Tmp) (ty : TypeId) (pos : String) (af : Array Edge) (e : Env) (H : Hp) (K : Value → Hp → Prop) : Step Try.prog X ops ⟨dd, .alloc 107, ty, pos, af, none⟩ e H K = K (.pointer (some ⟨H.next, 0, none⟩)) (H.push (.cells true 107 [.nilFunc])) := Step_alloc zt107 rfl
theorem ld108 (H : Hp) (a : Addr) : aload Try.prog 108 (.pointer (some a)) H = cellAt H a := aload_cell ag108 kn108 a
theorem ap108 (cs : Array Value) (off : Nat) : apart Try.prog 108 cs off = cs[off]? := apart_cell ag108 kn108 cs off
theorem so108 (H : Hp) (b off : Nat) (x : Value) : astore Try.prog 108 (.pointer (some ⟨b, off, none⟩)) x H = match H.get b with | .cells true e c => (if x.cells.size = 1 ∧ isTup x = false ∧ off + 1 ≤ c.length then some (H.put b (.cells true e (setAll c off x.cells.toList))) else none) | _ => none := astore_sz sz108 b off x
theorem al108 (X : Outer) (ops : Array Oper) (dd : Option Tmp) (ty : TypeId) (pos : String) (af : Array Edge) (e : Env) (H : Hp) (K : Value → Hp → Prop) : Step Try.prog X ops ⟨dd, .alloc 108, ty, pos, af, none⟩ e H K = K (.pointer (some ⟨H.next, 0, none⟩)) (H.push (.cells true 108 [.nilFunc])) := Step_alloc zt108 rfl
theorem ld109 (H : Hp) (a : Addr) : aload Try.prog 109 (.pointer (some a)) H = cellAt H a := aload_cell ag109 kn109 a
theorem ap109 (cs : Array Value) (off : Nat) : apart Try.prog 109 cs off = cs[off]? := apart_cell ag109 kn109 cs off
theorem so109 (H : Hp) (b off : Nat) (x : Value) : astore Try.prog 109 (.pointer (some ⟨b, off, none⟩)) x H = match H.get b with | .cells true e c => (if x.cells.size = 1 ∧ isTup x = false ∧ off + 1 ≤ c.length then some (H.put b (.cells true e (setAll c off x.cells.toList))) else none) | _ => none := astore_sz sz109 b off x
theorem ld110 (H : Hp) (a : Addr) : aload Try.prog 110 (.pointer (some a)) H = cellAt H a := aload_cell ag110 kn110 a
theorem ap110 (cs : Array Value) (off : Nat) : apart Try.prog 110 cs off = cs[off]? := apart_cell ag110 kn110 cs off
theorem so110 (H : Hp) (b off : Nat) (x : Value) : astore Try.prog 110 (.pointer (some ⟨b, off, none⟩)) x H = match H.get b with | .cells true e c => (if x.cells.size = 1 ∧ isTup x = false ∧ off + 1 ≤ c.length then some (H.put b (.cells true e (setAll c off x.cells.toList))) else none) | _ => none := astore_sz sz110 b off x
theorem al110 (X : Outer) (ops : Array Oper) (dd : Option Tmp) (ty : TypeId) (pos : String) (af : Array Edge) (e : Env) (H : Hp) (K : Value → Hp → Prop) : Step Try.prog X ops ⟨dd, .alloc 110, ty, pos, af, none⟩ e H K = K (.pointer (some ⟨H.next, 0, none⟩)) (H.push (.cells true 110 [.nilFunc])) := Step_alloc zt110 rfl
theorem ld111 (H : Hp) (a : Addr) : aload Try.prog 111 (.pointer (some a)) H = cellAt H a := aload_cell ag111 kn111 a
theorem ap111 (cs : Array Value) (off : Nat) : apart Try.prog 111 cs off = cs[off]? := apart_cell ag111 kn111 cs off
theorem so111 (H : Hp) (b off : Nat) (x : Value) : astore Try.prog 111 (.pointer (some ⟨b, off, none⟩)) x H = match H.get b with | .cells true e c => (if x.cells.size = 1 ∧ isTup x = false ∧ off + 1 ≤ c.length then some (H.put b (.cells true e (setAll c off x.cells.toList))) else none) | _ => none := astore_sz sz111 b off x
theorem al111 (X : Outer) (ops : Array Oper) (dd : Option Tmp) (ty : TypeId) (pos : String) (af : Array Edge) (e : Env) (H : Hp) (K : Value → Hp → Prop) : Step Try.prog X ops ⟨dd, .alloc 111, ty, pos, af, none⟩ e H K = K (.pointer (some ⟨H.next, 0, none⟩)) (H.push (.cells true 111 [.nilFunc])) := Step_alloc zt111 rfl
theorem ld112 (H : Hp) (a : Addr) : aload Try.prog 112 (.pointer (some a)) H = cellAt H a := aload_cell ag112 kn112 a
theorem ap112 (cs : Array Value) (off : Nat) : apart Try.prog 112 cs off = cs[off]? := apart_cell ag112 kn112 cs off
theorem so112 (H : Hp) (b off : Nat) (x : Value) : astore Try.prog 112 (.pointer (some ⟨b, off, none⟩)) x H = match H.get b with | .cells true e c => (if x.cells.size = 1 ∧ isTup x = false ∧ off + 1 ≤ c.length then some (H.put b (.cells true e (setAll c off x.cells.toList))) else none) | _ => none := astore_sz sz112 b off x
theorem al112 (X : Outer) (ops : Array Oper) (dd : Option Tmp) (ty : TypeId) (pos : String) (af : Array Edge) (e : Env) (H : Hp) (K : Value → Hp → Prop) : Step Try.prog X ops ⟨dd, .alloc 112, ty, pos, af, none⟩ e H K = K (.pointer (some ⟨H.next, 0, none⟩)) (H.push (.cells true 112 [.nilFunc])) := Step_alloc zt112 rfl
theorem ld113 (H : Hp) (a : Addr) : aload Try.prog 113 (.pointer (some a)) H = cellAt H a := aload_cell ag113 kn113 a
theorem ap113 (cs : Array Value) (off : Nat) : apart Try.prog 113 cs off = cs[off]? := apart_cell ag113 kn113 cs off
theorem so113 (H : Hp) (b off : Nat) (x : Value) : astore Try.prog 113 (.pointer (some ⟨b, off, none⟩)) x H = match H.get b with | .cells true e c => (if x.cells.size = 1 ∧ isTup x = false ∧ off + 1 ≤ c.length then some (H.put b (.cells true e (setAll c off x.cells.toList))) else none) | _ => none := astore_sz sz113 b off x
theorem al113 (X : Outer) (ops : Array Oper) (dd : Option Tmp) (ty : TypeId) (pos : String) (af : Array Edge) (e : Env) (H : Hp) (K : Value → Hp → Prop) : Step Try.prog X ops ⟨dd, .alloc 113, ty, pos, af, none⟩ e H K = K (.pointer (some ⟨H.next, 0, none⟩)) (H.push (.cells true 113 [.nilFunc])) := Step_alloc zt113 rfl
theorem ld114 (H : Hp) (a : Addr) : aload Try.prog 114 (.pointer (some a)) H = cellAt H a := aload_cell ag114 kn114 a
theorem ap114 (cs : Array Value) (off : Nat) : apart Try.prog 114 cs off = cs[off]? := apart_cell ag114 kn114 cs off
theorem so114 (H : Hp) (b off : Nat) (x : Value) : astore Try.prog 114 (.pointer (some ⟨b, off, none⟩)) x H = match H.get b with | .cells true e c => (if x.cells.size = 1 ∧ isTup x = false ∧ off + 1 ≤ c.length then some (H.put b (.cells true e (setAll c off x.cells.toList))) else none) | _ => none := astore_sz sz114 b off x
theorem al114 (X : Outer) (ops : Array Oper) (dd : Option Tmp) (ty : TypeId) (pos : String) (af : Array Edge) (e : Env) (H : Hp) (K : Value → Hp → Prop) : Step Try.prog X ops ⟨dd, .alloc 114, ty, pos, af, none⟩ e H K = K (.pointer (some ⟨H.next, 0, none⟩)) (H.push (.cells true 114 [.nilFunc])) := Step_alloc zt114 rfl
theorem ld115 (H : Hp) (a : Addr) : aload Try.prog 115 (.pointer (some a)) H = cellAt H a := aload_cell ag115 kn115 a
theorem ap115 (cs : Array Value) (off : Nat) : apart Try.prog 115 cs off = cs[off]? := apart_cell ag115 kn115 cs off
theorem so115 (H : Hp) (b off : Nat) (x : Value) : astore Try.prog 115 (.pointer (some ⟨b, off, none⟩)) x H = match H.get b with | .cells true e c => (if x.cells.size = 1 ∧ isTup x = false ∧ off + 1 ≤ c.length then some (H.put b (.cells true e (setAll c off x.cells.toList))) else none) | _ => none := astore_sz sz115 b off x
theorem al115 (X : Outer) (ops : Array Oper) (dd : Option Tmp) (ty : TypeId) (pos : String) (af : Array Edge) (e : Env) (H : Hp) (K : Value → Hp → Prop) : Step Try.prog X ops ⟨dd, .alloc 115, ty, pos, af, none⟩ e H K = K (.pointer (some ⟨H.next, 0, none⟩)) (H.push (.cells true 115 [.int .u64 0])) := Step_alloc zt115 rfl
theorem ld116 (H : Hp) (a : Addr) : aload Try.prog 116 (.pointer (some a)) H = cellAt H a := aload_cell ag116 kn116 a
theorem ap116 (cs : Array Value) (off : Nat) : apart Try.prog 116 cs off = cs[off]? := apart_cell ag116 kn116 cs off
theorem so116 (H : Hp) (b off : Nat) (x : Value) : astore Try.prog 116 (.pointer (some ⟨b, off, none⟩)) x H = match H.get b with | .cells true e c => (if x.cells.size = 1 ∧ isTup x = false ∧ off + 1 ≤ c.length then some (H.put b (.cells true e (setAll c off x.cells.toList))) else none) | _ => none := astore_sz sz116 b off x
theorem ld117 (H : Hp) (a : Addr) : aload Try.prog 117 (.pointer (some a)) H = cellAt H a := aload_cell ag117 kn117 a
theorem ap117 (cs : Array Value) (off : Nat) : apart Try.prog 117 cs off = cs[off]? := apart_cell ag117 kn117 cs off
theorem so117 (H : Hp) (b off : Nat) (x : Value) : astore Try.prog 117 (.pointer (some ⟨b, off, none⟩)) x H = match H.get b with | .cells true e c => (if x.cells.size = 1 ∧ isTup x = false ∧ off + 1 ≤ c.length then some (H.put b (.cells true e (setAll c off x.cells.toList))) else none) | _ => none := astore_sz sz117 b off x
theorem al117 (X : Outer) (ops : Array Oper) (dd : Option Tmp) (ty : TypeId) (pos : String) (af : Array Edge) (e : Env) (H : Hp) (K : Value → Hp → Prop) : Step Try.prog X ops ⟨dd, .alloc 117, ty, pos, af, none⟩ e H K = K (.pointer (some ⟨H.next, 0, none⟩)) (H.push (.cells true 117 [.nilFunc])) := Step_alloc zt117 rfl
theorem ld118 (H : Hp) (a : Addr) : aload Try.prog 118 (.pointer (some a)) H = cellAt H a := aload_cell ag118 kn118 a
theorem ap118 (cs : Array Value) (off : Nat) : apart Try.prog 118 cs off = cs[off]? := apart_cell ag118 kn118 cs off
theorem so118 (H : Hp) (b off : Nat) (x : Value) : astore Try.prog 118 (.pointer (some ⟨b, off, none⟩)) x H = match H.get b with | .cells true e c => (if x.cells.size = 1 ∧ isTup x = false ∧ off + 1 ≤ c.length then some (H.put b (.cells true e (setAll c off x.cells.toList))) else none) | _ => none := astore_sz sz118 b off x
theorem al118 (X : Outer) (ops : Array Oper) (dd : Option Tmp) (ty : TypeId) (pos : String) (af : Array Edge) (e : Env) (H : Hp) (K : Value → Hp → Prop) : Step Try.prog X ops ⟨dd, .alloc 118, ty, pos, af, none⟩ e H K = K (.pointer (some ⟨H.next, 0, none⟩)) (H.push (.cells true 118 [.pointer none])) := Step_alloc zt118 rfl
theorem ld119 (H : Hp) (a : Addr) : aload Try.prog 119 (.pointer (some a)) H = (cellsAt H a 2).map fun c => .agg c.toArray := aload_agg ag119 sz119 a
theorem ap119 (cs : Array Value) (off : Nat) : apart Try.prog 119 cs off = if off + 2 ≤ cs.size then some (.agg (cs.extract off (off + 2))) else none := apart_agg ag119 sz119 cs off
theorem so119 (H : Hp) (b off : Nat) (x : Value) : astore Try.prog 119 (.pointer (some ⟨b, off, none⟩)) x H = match H.get b with | .cells true e c => (if x.cells.size = 2 ∧ isTup x = false ∧ off + 2 ≤ c.length then some (H.put b (.cells true e (setAll c off x.cells.toList))) else none) | _ => none := astore_sz sz119 b off x
theorem al119 (X : Outer) (ops : Array Oper) (dd : Option Tmp) (ty : TypeId) (pos : String) (af : Array Edge) (e : Env) (H : Hp) (K : Value → Hp → Prop) : Step Try.prog X ops ⟨dd, .alloc 119, ty, pos, af, none⟩ e H K = K (.pointer (some ⟨H.next, 0, none⟩)) (H.push (.cells true 119 [.pointer none, .slice none 0 0])) := Step_alloc zt119 rfl
theorem fa119_0 (ρ : Operand → Value) (H : Hp) (x : Operand) : lop Try.prog ρ H (.fieldAddr 119 x 0) = match ρ x with | .pointer (some a) => (if a.spot = none then some (.pointer (some ⟨a.block, a.off + 0, none⟩)) else none) | _ => none := lop_fieldAddr x 0 0 1 pl119_0 (by decide)
theorem fd119_0 (ρ : Operand → Value) (H : Hp) (x : Operand) : lop Try.prog ρ H (.field 119 x 0) = match ρ x with | .agg cs => apart Try.prog 118 cs 0 | _ => none := lop_field x 0 0 1 118 pl119_0 ft119_0
theorem fa119_1 (ρ : Operand → Value) (H : Hp) (x : Operand) : lop Try.prog ρ H (.fieldAddr 119 x 1) = match ρ x with | .pointer (some a) => (if a.spot = none then some (.pointer (some ⟨a.block, a.off + 1, none⟩)) else none) | _ => none := lop_fieldAddr x 1 1 1 pl119_1 (by decide)
theorem fd119_1 (ρ : Operand → Value) (H : Hp) (x : Operand) : lop Try.prog ρ H (.field 119 x 1) = match ρ x with | .agg cs => apart Try.prog 47 cs 1 | _ => none := lop_field x 1 1 1 47 pl119_1 ft119_1
theorem bd119 (ρ : Operand → Value) (H : Hp) (parts : Array (Nat × Operand)) : lop Try.prog ρ H (.build 119 parts) = if parts.toList.all (fun p => !isTup (ρ p.2)) then (afill (place Try.prog 119) (Value.cells (.agg #[.pointer none, .slice none 0 0])).toList (parts.toList.map fun p => (p.1, ρ p.2))).map fun cs => .agg cs.toArray else none := lop_build parts _ zt119 sd119 rfl
theorem ld120 (H : Hp) (a : Addr) : aload Try.prog 120 (.pointer (some a)) H = (cellsAt H a 2).map fun c => .agg c.toArray := aload_agg ag120 sz120 a
theorem ap120 (cs : Array Value) (off : Nat) : apart Try.prog 120 cs off = if off + 2 ≤ cs.size then some (.agg (cs.extract off (off + 2))) else none := apart_agg ag120 sz120 cs off
theorem so120 (H : Hp) (b off : Nat) (x : Value) : astore Try.prog 120 (.pointer (some ⟨b, off, none⟩)) x H = match H.get b with | .cells true e c => (if x.cells.size = 2 ∧ isTup x = false ∧ off + 2 ≤ c.length then some (H.put b (.cells true e (setAll c off x.cells.toList))) else none) | _ => none := astore_sz sz120 b off x
theorem al120 (X : Outer) (ops : Array Oper) (dd : Option Tmp) (ty : TypeId) (pos : String) (af : Array Edge) (e : Env) (H : Hp) (K : Value → Hp → Prop) : Step Try.prog X ops ⟨dd, .alloc 120, ty, pos, af, none⟩ e H K = K (.pointer (some ⟨H.next, 0, none⟩)) (H.push (.cells true 120 [.pointer none, .slice none 0 0])) := Step_alloc zt120 rfl
theorem fa120_0 (ρ : Operand → Value) (H : Hp) (x : Operand) : lop Try.prog ρ H (.fieldAddr 120 x 0) = match ρ x with | .pointer (some a) => (if a.spot = none then some (.pointer (some ⟨a.block, a.off + 0, none⟩)) else none) | _ => none := lop_fieldAddr x 0 0 1 pl120_0 (by decide)
theorem fd120_0 (ρ : Operand → Value) (H : Hp) (x : Operand) : lop Try.prog ρ H (.field 120 x 0) = match ρ x with | .agg cs => apart Try.prog 118 cs 0 | _ => none := lop_field x 0 0 1 118 pl120_0 ft120_0
theorem fa120_1 (ρ : Operand → Value) (H : Hp) (x : Operand) : lop Try.prog ρ H (.fieldAddr 120 x 1) = match ρ x with | .pointer (some a) => (if a.spot = none then some (.pointer (some ⟨a.block, a.off + 1, none⟩)) else none) | _ => none := lop_fieldAddr x 1 1 1 pl120_1 (by decide)
theorem fd120_1 (ρ : Operand → Value) (H : Hp) (x : Operand) : lop Try.prog ρ H (.field 120 x 1) = match ρ x with | .agg cs => apart Try.prog 47 cs 1 | _ => none := lop_field x 1 1 1 47 pl120_1 ft120_1
theorem bd120 (ρ : Operand → Value) (H : Hp) (parts : Array (Nat × Operand)) : lop Try.prog ρ H (.build 120 parts) = if parts.toList.all (fun p => !isTup (ρ p.2)) then (afill (place Try.prog 120) (Value.cells (.agg #[.pointer none, .slice none 0 0])).toList (parts.toList.map fun p => (p.1, ρ p.2))).map fun cs => .agg cs.toArray else none := lop_build parts _ zt120 sd120 rfl
theorem ld121 (H : Hp) (a : Addr) : aload Try.prog 121 (.pointer (some a)) H = cellAt H a := aload_cell ag121 kn121 a
theorem ap121 (cs : Array Value) (off : Nat) : apart Try.prog 121 cs off = cs[off]? := apart_cell ag121 kn121 cs off
theorem so121 (H : Hp) (b off : Nat) (x : Value) : astore Try.prog 121 (.pointer (some ⟨b, off, none⟩)) x H = match H.get b with | .cells true e c => (if x.cells.size = 1 ∧ isTup x = false ∧ off + 1 ≤ c.length then some (H.put b (.cells true e (setAll c off x.cells.toList))) else none) | _ => none := astore_sz sz121 b off x
theorem al121 (X : Outer) (ops : Array Oper) (dd : Option Tmp) (ty : TypeId) (pos : String) (af : Array Edge) (e : Env) (H : Hp) (K : Value → Hp → Prop) : Step Try.prog X ops ⟨dd, .alloc 121, ty, pos, af, none⟩ e H K = K (.pointer (some ⟨H.next, 0, none⟩)) (H.push (.cells true 121 [.nilIface])) := Step_alloc zt121 rfl
theorem ld122 (H : Hp) (a : Addr) : aload Try.prog 122 (.pointer (some a)) H = cellAt H a := aload_cell ag122 kn122 a
theorem ap122 (cs : Array Value) (off : Nat) : apart Try.prog 122 cs off = cs[off]? := apart_cell ag122 kn122 cs off
theorem so122 (H : Hp) (b off : Nat) (x : Value) : astore Try.prog 122 (.pointer (some ⟨b, off, none⟩)) x H = match H.get b with | .cells true e c => (if x.cells.size = 1 ∧ isTup x = false ∧ off + 1 ≤ c.length then some (H.put b (.cells true e (setAll c off x.cells.toList))) else none) | _ => none := astore_sz sz122 b off x
theorem al122 (X : Outer) (ops : Array Oper) (dd : Option Tmp) (ty : TypeId) (pos : String) (af : Array Edge) (e : Env) (H : Hp) (K : Value → Hp → Prop) : Step Try.prog X ops ⟨dd, .alloc 122, ty, pos, af, none⟩ e H K = K (.pointer (some ⟨H.next, 0, none⟩)) (H.push (.cells true 122 [.nilIface])) := Step_alloc zt122 rfl
theorem ld123 (H : Hp) (a : Addr) : aload Try.prog 123 (.pointer (some a)) H = cellAt H a := aload_cell ag123 kn123 a
theorem ap123 (cs : Array Value) (off : Nat) : apart Try.prog 123 cs off = cs[off]? := apart_cell ag123 kn123 cs off
theorem so123 (H : Hp) (b off : Nat) (x : Value) : astore Try.prog 123 (.pointer (some ⟨b, off, none⟩)) x H = match H.get b with | .cells true e c => (if x.cells.size = 1 ∧ isTup x = false ∧ off + 1 ≤ c.length then some (H.put b (.cells true e (setAll c off x.cells.toList))) else none) | _ => none := astore_sz sz123 b off x
theorem al123 (X : Outer) (ops : Array Oper) (dd : Option Tmp) (ty : TypeId) (pos : String) (af : Array Edge) (e : Env) (H : Hp) (K : Value → Hp → Prop) : Step Try.prog X ops ⟨dd, .alloc 123, ty, pos, af, none⟩ e H K = K (.pointer (some ⟨H.next, 0, none⟩)) (H.push (.cells true 123 [.nilFunc])) := Step_alloc zt123 rfl
theorem ld124 (H : Hp) (a : Addr) : aload Try.prog 124 (.pointer (some a)) H = cellAt H a := aload_cell ag124 kn124 a
theorem ap124 (cs : Array Value) (off : Nat) : apart Try.prog 124 cs off = cs[off]? := apart_cell ag124 kn124 cs off
theorem so124 (H : Hp) (b off : Nat) (x : Value) : astore Try.prog 124 (.pointer (some ⟨b, off, none⟩)) x H = match H.get b with | .cells true e c => (if x.cells.size = 1 ∧ isTup x = false ∧ off + 1 ≤ c.length then some (H.put b (.cells true e (setAll c off x.cells.toList))) else none) | _ => none := astore_sz sz124 b off x
theorem al124 (X : Outer) (ops : Array Oper) (dd : Option Tmp) (ty : TypeId) (pos : String) (af : Array Edge) (e : Env) (H : Hp) (K : Value → Hp → Prop) : Step Try.prog X ops ⟨dd, .alloc 124, ty, pos, af, none⟩ e H K = K (.pointer (some ⟨H.next, 0, none⟩)) (H.push (.cells true 124 [.nilFunc])) := Step_alloc zt124 rfl
theorem ld125 (H : Hp) (a : Addr) : aload Try.prog 125 (.pointer (some a)) H = cellAt H a := aload_cell ag125 kn125 a
theorem ap125 (cs : Array Value) (off : Nat) : apart Try.prog 125 cs off = cs[off]? := apart_cell ag125 kn125 cs off
theorem so125 (H : Hp) (b off : Nat) (x : Value) : astore Try.prog 125 (.pointer (some ⟨b, off, none⟩)) x H = match H.get b with | .cells true e c => (if x.cells.size = 1 ∧ isTup x = false ∧ off + 1 ≤ c.length then some (H.put b (.cells true e (setAll c off x.cells.toList))) else none) | _ => none := astore_sz sz125 b off x
theorem al125 (X : Outer) (ops : Array Oper) (dd : Option Tmp) (ty : TypeId) (pos : String) (af : Array Edge) (e : Env) (H : Hp) (K : Value → Hp → Prop) : Step Try.prog X ops ⟨dd, .alloc 125, ty, pos, af, none⟩ e H K = K (.pointer (some ⟨H.next, 0, none⟩)) (H.push (.cells true 125 [.nilFunc])) := Step_alloc zt125 rfl
theorem ld126 (H : Hp) (a : Addr) : aload Try.prog 126 (.pointer (some a)) H = cellAt H a := aload_cell ag126 kn126 a
theorem ap126 (cs : Array Value) (off : Nat) : apart Try.prog 126 cs off = cs[off]? := apart_cell ag126 kn126 cs off
theorem so126 (H : Hp) (b off : Nat) (x : Value) : astore Try.prog 126 (.pointer (some ⟨b, off, none⟩)) x H = match H.get b with | .cells true e c => (if x.cells.size = 1 ∧ isTup x = false ∧ off + 1 ≤ c.length then some (H.put b (.cells true e (setAll c off x.cells.toList))) else none) | _ => none := astore_sz sz126 b off x
theorem al126 (X : Outer) (ops : Array Oper) (dd : Option Tmp) (ty : TypeId) (pos : String) (af : Array Edge) (e : Env) (H : Hp) (K : Value → Hp → Prop) : Step Try.prog X ops ⟨dd, .alloc 126, ty, pos, af, none⟩ e H K = K (.pointer (some ⟨H.next, 0, none⟩)) (H.push (.cells true 126 [.pointer none])) := Step_alloc zt126 rfl
theorem ld127 (H : Hp) (a : Addr) : aload Try.prog 127 (.pointer (some a)) H = cellAt H a := aload_cell ag127 kn127 a
theorem ap127 (cs : Array Value) (off : Nat) : apart Try.prog 127 cs off = cs[off]? := apart_cell ag127 kn127 cs off
theorem so127 (H : Hp) (b off : Nat) (x : Value) : astore Try.prog 127 (.pointer (some ⟨b, off, none⟩)) x H = match H.get b with | .cells true e c => (if x.cells.size = 1 ∧ isTup x = false ∧ off + 1 ≤ c.length then some (H.put b (.cells true e (setAll c off x.cells.toList))) else none) | _ => none := astore_sz sz127 b off x
theorem al127 (X : Outer) (ops : Array Oper) (dd : Option Tmp) (ty : TypeId) (pos : String) (af : Array Edge) (e : Env) (H : Hp) (K : Value → Hp → Prop) : Step Try.prog X ops ⟨dd, .alloc 127, ty, pos, af, none⟩ e H K = K (.pointer (some ⟨H.next, 0, none⟩)) (H.push (.cells true 127 [.pointer none])) := Step_alloc zt127 rfl
theorem ld128 (H : Hp) (a : Addr) : aload Try.prog 128 (.pointer (some a)) H = cellAt H a := aload_cell ag128 kn128 a
theorem ap128 (cs : Array Value) (off : Nat) : apart Try.prog 128 cs off = cs[off]? := apart_cell ag128 kn128 cs off
theorem so128 (H : Hp) (b off : Nat) (x : Value) : astore Try.prog 128 (.pointer (some ⟨b, off, none⟩)) x H = match H.get b with | .cells true e c => (if x.cells.size = 1 ∧ isTup x = false ∧ off + 1 ≤ c.length then some (H.put b (.cells true e (setAll c off x.cells.toList))) else none) | _ => none := astore_sz sz128 b off x
theorem al128 (X : Outer) (ops : Array Oper) (dd : Option Tmp) (ty : TypeId) (pos : String) (af : Array Edge) (e : Env) (H : Hp) (K : Value → Hp → Prop) : Step Try.prog X ops ⟨dd, .alloc 128, ty, pos, af, none⟩ e H K = K (.pointer (some ⟨H.next, 0, none⟩)) (H.push (.cells true 128 [.nilFunc])) := Step_alloc zt128 rfl
theorem ld129 (H : Hp) (a : Addr) : aload Try.prog 129 (.pointer (some a)) H = (cellsAt H a 4).map fun c => .agg c.toArray := aload_agg ag129 sz129 a
theorem ap129 (cs : Array Value) (off : Nat) : apart Try.prog 129 cs off = if off + 4 ≤ cs.size then some (.agg (cs.extract off (off + 4))) else none := apart_agg ag129 sz129 cs off
theorem so129 (H : Hp) (b off : Nat) (x : Value) : astore Try.prog 129 (.pointer (some ⟨b, off, none⟩)) x H = match H.get b with | .cells true e c => (if x.cells.size = 4 ∧ isTup x = false ∧ off + 4 ≤ c.length then some (H.put b (.cells true e (setAll c off x.cells.toList))) else none) | _ => none := astore_sz sz129 b off x
theorem al129 (X : Outer) (ops : Array Oper) (dd : Option Tmp) (ty : TypeId) (pos : String) (af : Array Edge) (e : Env) (H : Hp) (K : Value → Hp → Prop) : Step Try.prog X ops ⟨dd, .alloc 129, ty, pos, af, none⟩ e H K = K (.pointer (some ⟨H.next, 0, none⟩)) (H.push (.cells true 129 [.pointer none, .pointer none, .pointer none, .string .empty])) := Step_alloc zt129 rfl
theorem fa129_0 (ρ : Operand → Value) (H : Hp) (x : Operand) : lop Try.prog ρ H (.fieldAddr 129 x 0) = match ρ x with | .pointer (some a) => (if a.spot = none then some (.pointer (some ⟨a.block, a.off + 0, none⟩)) else none) | _ => none := lop_fieldAddr x 0 0 1 pl129_0 (by decide)
theorem fd129_0 (ρ : Operand → Value) (H : Hp) (x : Operand) : lop Try.prog ρ H (.field 129 x 0) = match ρ x with | .agg cs => apart Try.prog 17 cs 0 | _ => none := lop_field x 0 0 1 17 pl129_0 ft129_0
theorem fa129_1 (ρ : Operand → Value) (H : Hp) (x : Operand) : lop Try.prog ρ H (.fieldAddr 129 x 1) = match ρ x with | .pointer (some a) => (if a.spot = none then some (.pointer (some ⟨a.block, a.off + 1, none⟩)) else none) | _ => none := lop_fieldAddr x 1 1 1 pl129_1 (by decide)
theorem fd129_1 (ρ : Operand → Value) (H : Hp) (x : Operand) : lop Try.prog ρ H (.field 129 x 1) = match ρ x with | .agg cs => apart Try.prog 17 cs 1 | _ => none := lop_field x 1 1 1 17 pl129_1 ft129_1
theorem fa129_2 (ρ : Operand → Value) (H : Hp) (x : Operand) : lop Try.prog ρ H (.fieldAddr 129 x 2) = match ρ x with | .pointer (some a) => (if a.spot = none then some (.pointer (some ⟨a.block, a.off + 2, none⟩)) else none) | _ => none := lop_fieldAddr x 2 2 1 pl129_2 (by decide)
theorem fd129_2 (ρ : Operand → Value) (H : Hp) (x : Operand) : lop Try.prog ρ H (.field 129 x 2) = match ρ x with | .agg cs => apart Try.prog 17 cs 2 | _ => none := lop_field x 2 2 1 17 pl129_2 ft129_2
theorem fa129_3 (ρ : Operand → Value) (H : Hp) (x : Operand) : lop Try.prog ρ H (.fieldAddr 129 x 3) = match ρ x with | .pointer (some a) => (if a.spot = none then some (.pointer (some ⟨a.block, a.off + 3, none⟩)) else none) | _ => none := lop_fieldAddr x 3 3 1 pl129_3 (by decide)
theorem fd129_3 (ρ : Operand → Value) (H : Hp) (x : Operand) : lop Try.prog ρ H (.field 129 x 3) = match ρ x with | .agg cs => apart Try.prog 9 cs 3 | _ => none := lop_field x 3 3 1 9 pl129_3 ft129_3
theorem bd129 (ρ : Operand → Value) (H : Hp) (parts : Array (Nat × Operand)) : lop Try.prog ρ H (.build 129 parts) = if parts.toList.all (fun p => !isTup (ρ p.2)) then (afill (place Try.prog 129) (Value.cells (.agg #[.pointer none, .pointer none, .pointer none, .string .empty])).toList (parts.toList.map fun p => (p.1, ρ p.2))).map fun cs => .agg cs.toArray else none := lop_build parts _ zt129 sd129 rfl
theorem ld130 (H : Hp) (a : Addr) : aload Try.prog 130 (.pointer (some a)) H = (cellsAt H a 4).map fun c => .agg c.toArray := aload_agg ag130 sz130 a
theorem ap130 (cs : Array Value) (off : Nat) : apart Try.prog 130 cs off = if off + 4 ≤ cs.size then some (.agg (cs.extract off (off + 4))) else none := apart_agg ag130 sz130 cs off
theorem so130 (H : Hp) (b off : Nat) (x : Value) : astore Try.prog 130 (.pointer (some ⟨b, off, none⟩)) x H = match H.get b with | .cells true e c => (if x.cells.size = 4 ∧ isTup x = false ∧ off + 4 ≤ c.length then some (H.put b (.cells true e (setAll c off x.cells.toList))) else none) | _ => none := astore_sz sz130 b off x
theorem al130 (X : Outer) (ops : Array Oper) (dd : Option Tmp) (ty : TypeId) (pos : String) (af : Array Edge) (e : Env) (H : Hp) (K : Value → Hp → Prop) : Step Try.prog X ops ⟨dd, .alloc 130, ty, pos, af, none⟩ e H K = K (.pointer (some ⟨H.next, 0, none⟩)) (H.push (.cells true 130 [.pointer none, .pointer none, .pointer none, .string .empty])) := Step_alloc zt130 rfl
theorem fa130_0 (ρ : Operand → Value) (H : Hp) (x : Operand) : lop Try.prog ρ H (.fieldAddr 130 x 0) = match ρ x with | .pointer (some a) => (if a.spot = none then some (.pointer (some ⟨a.block, a.off + 0, none⟩)) else none) | _ => none := lop_fieldAddr x 0 0 1 pl130_0 (by decide)
theorem fd130_0 (ρ : Operand → Value) (H : Hp) (x : Operand) : lop Try.prog ρ H (.field 130 x 0) = match ρ x with | .agg cs => apart Try.prog 17 cs 0 | _ => none := lop_field x 0 0 1 17 pl130_0 ft130_0
theorem fa130_1 (ρ : Operand → Value) (H : Hp) (x : Operand) : lop Try.prog ρ H (.fieldAddr 130 x 1) = match ρ x with | .pointer (some a) => (if a.spot = none then some (.pointer (some ⟨a.block, a.off + 1, none⟩)) else none) | _ => none := lop_fieldAddr x 1 1 1 pl130_1 (by decide)
theorem fd130_1 (ρ : Operand → Value) (H : Hp) (x : Operand) : lop Try.prog ρ H (.field 130 x 1) = match ρ x with | .agg cs => apart Try.prog 17 cs 1 | _ => none := lop_field x 1 1 1 17 pl130_1 ft130_1
theorem fa130_2 (ρ : Operand → Value) (H : Hp) (x : Operand) : lop Try.prog ρ H (.fieldAddr 130 x 2) = match ρ x with | .pointer (some a) => (if a.spot = none then some (.pointer (some ⟨a.block, a.off + 2, none⟩)) else none) | _ => none := lop_fieldAddr x 2 2 1 pl130_2 (by decide)
theorem fd130_2 (ρ : Operand → Value) (H : Hp) (x : Operand) : lop Try.prog ρ H (.field 130 x 2) = match ρ x with | .agg cs => apart Try.prog 17 cs 2 | _ => none := lop_field x 2 2 1 17 pl130_2 ft130_2
theorem fa130_3 (ρ : Operand → Value) (H : Hp) (x : Operand) : lop Try.prog ρ H (.fieldAddr 130 x 3) = match ρ x with | .pointer (some a) => (if a.spot = none then some (.pointer (some ⟨a.block, a.off + 3, none⟩)) else none) | _ => none := lop_fieldAddr x 3 3 1 pl130_3 (by decide)
theorem fd130_3 (ρ : Operand → Value) (H : Hp) (x : Operand) : lop Try.prog ρ H (.field 130 x 3) = match ρ x with | .agg cs => apart Try.prog 9 cs 3 | _ => none := lop_field x 3 3 1 9 pl130_3 ft130_3
theorem bd130 (ρ : Operand → Value) (H : Hp) (parts : Array (Nat × Operand)) : lop Try.prog ρ H (.build 130 parts) = if parts.toList.all (fun p => !isTup (ρ p.2)) then (afill (place Try.prog 130) (Value.cells (.agg #[.pointer none, .pointer none, .pointer none, .string .empty])).toList (parts.toList.map fun p => (p.1, ρ p.2))).map fun cs => .agg cs.toArray else none := lop_build parts _ zt130 sd130 rfl
theorem ld131 (H : Hp) (a : Addr) : aload Try.prog 131 (.pointer (some a)) H = (cellsAt H a 0).map fun c => .agg c.toArray := aload_agg ag131 sz131 a
theorem ap131 (cs : Array Value) (off : Nat) : apart Try.prog 131 cs off = if off + 0 ≤ cs.size then some (.agg (cs.extract off (off + 0))) else none := apart_agg ag131 sz131 cs off
theorem so131 (H : Hp) (b off : Nat) (x : Value) : astore Try.prog 131 (.pointer (some ⟨b, off, none⟩)) x H = match H.get b with | .cells true e c => (if x.cells.size = 0 ∧ isTup x = false ∧ off + 0 ≤ c.length then some (H.put b (.cells true e (setAll c off x.cells.toList))) else none) | _ => none := astore_sz sz131 b off x
theorem al131 (X : Outer) (ops : Array Oper) (dd : Option Tmp) (ty : TypeId) (pos : String) (af : Array Edge) (e : Env) (H : Hp) (K : Value → Hp → Prop) : Step Try.prog X ops ⟨dd, .alloc 131, ty, pos, af, none⟩ e H K = K (.pointer (some ⟨H.next, 0, none⟩)) (H.push (.cells true 131 [])) := Step_alloc zt131 rfl
theorem ld132 (H : Hp) (a : Addr) : aload Try.prog 132 (.pointer (some a)) H = (cellsAt H a 0).map fun c => .agg c.toArray := aload_agg ag132 sz132 a
theorem ap132 (cs : Array Value) (off : Nat) : apart Try.prog 132 cs off = if off + 0 ≤ cs.size then some (.agg (cs.extract off (off + 0))) else none := apart_agg ag132 sz132 cs off
theorem so132 (H : Hp) (b off : Nat) (x : Value) : astore Try.prog 132 (.pointer (some ⟨b, off, none⟩)) x H = match H.get b with | .cells true e c => (if x.cells.size = 0 ∧ isTup x = false ∧ off + 0 ≤ c.length then some (H.put b (.cells true e (setAll c off x.cells.toList))) else none) | _ => none := astore_sz sz132 b off x
theorem al132 (X : Outer) (ops : Array Oper) (dd : Option Tmp) (ty : TypeId) (pos : String) (af : Array Edge) (e : Env) (H : Hp) (K : Value → Hp → Prop) : Step Try.prog X ops ⟨dd, .alloc 132, ty, pos, af, none⟩ e H K = K (.pointer (some ⟨H.next, 0, none⟩)) (H.push (.cells true 132 [])) := Step_alloc zt132 rfl
theorem fd132_0 (ρ : Operand → Value) (H : Hp) (x : Operand) : lop Try.prog ρ H (.field 132 x 0) = match ρ x with | .agg cs => apart Try.prog 131 cs 0 | _ => none := lop_field x 0 0 0 131 pl132_0 ft132_0
theorem bd132 (ρ : Operand → Value) (H : Hp) (parts : Array (Nat × Operand)) : lop Try.prog ρ H (.build 132 parts) = if parts.toList.all (fun p => !isTup (ρ p.2)) then (afill (place Try.prog 132) (Value.cells (.agg #[])).toList (parts.toList.map fun p => (p.1, ρ p.2))).map fun cs => .agg cs.toArray else none := lop_build parts _ zt132 sd132 rfl
theorem ld133 (H : Hp) (a : Addr) : aload Try.prog 133 (.pointer (some a)) H = (cellsAt H a 0).map fun c => .agg c.toArray := aload_agg ag133 sz133 a
theorem ap133 (cs : Array Value) (off : Nat) : apart Try.prog 133 cs off = if off + 0 ≤ cs.size then some (.agg (cs.extract off (off + 0))) else none := apart_agg ag133 sz133 cs off
theorem so133 (H : Hp) (b off : Nat) (x : Value) : astore Try.prog 133 (.pointer (some ⟨b, off, none⟩)) x H = match H.get b with | .cells true e c => (if x.cells.size = 0 ∧ isTup x = false ∧ off + 0 ≤ c.length then some (H.put b (.cells true e (setAll c off x.cells.toList))) else none) | _ => none := astore_sz sz133 b off x
theorem al133 (X : Outer) (ops : Array Oper) (dd : Option Tmp) (ty : TypeId) (pos : String) (af : Array Edge) (e : Env) (H : Hp) (K : Value → Hp → Prop) : Step Try.prog X ops ⟨dd, .alloc 133, ty, pos, af, none⟩ e H K = K (.pointer (some ⟨H.next, 0, none⟩)) (H.push (.cells true 133 [])) := Step_alloc zt133 rfl
theorem fd133_0 (ρ : Operand → Value) (H : Hp) (x : Operand) : lop Try.prog ρ H (.field 133 x 0) = match ρ x with | .agg cs => apart Try.prog 131 cs 0 | _ => none := lop_field x 0 0 0 131 pl133_0 ft133_0
theorem bd133 (ρ : Operand → Value) (H : Hp) (parts : Array (Nat × Operand)) : lop Try.prog ρ H (.build 133 parts) = if parts.toList.all (fun p => !isTup (ρ p.2)) then (afill (place Try.prog 133) (Value.cells (.agg #[])).toList (parts.toList.map fun p => (p.1, ρ p.2))).map fun cs => .agg cs.toArray else none := lop_build parts _ zt133 sd133 rfl
theorem ld134 (H : Hp) (a : Addr) : aload Try.prog 134 (.pointer (some a)) H = cellAt H a := aload_cell ag134 kn134 a
theorem ap134 (cs : Array Value) (off : Nat) : apart Try.prog 134 cs off = cs[off]? := apart_cell ag134 kn134 cs off
theorem so134 (H : Hp) (b off : Nat) (x : Value) : astore Try.prog 134 (.pointer (some ⟨b, off, none⟩)) x H = match H.get b with | .cells true e c => (if x.cells.size = 1 ∧ isTup x = false ∧ off + 1 ≤ c.length then some (H.put b (.cells true e (setAll c off x.cells.toList))) else none) | _ => none := astore_sz sz134 b off x
theorem al134 (X : Outer) (ops : Array Oper) (dd : Option Tmp) (ty : TypeId) (pos : String) (af : Array Edge) (e : Env) (H : Hp) (K : Value → Hp → Prop) : Step Try.prog X ops ⟨dd, .alloc 134, ty, pos, af, none⟩ e H K = K (.pointer (some ⟨H.next, 0, none⟩)) (H.push (.cells true 134 [.int .u32 0])) := Step_alloc zt134 rfl
theorem ld135 (H : Hp) (a : Addr) : aload Try.prog 135 (.pointer (some a)) H = cellAt H a := aload_cell ag135 kn135 a
theorem ap135 (cs : Array Value) (off : Nat) : apart Try.prog 135 cs off = cs[off]? := apart_cell ag135 kn135 cs off
theorem so135 (H : Hp) (b off : Nat) (x : Value) : astore Try.prog 135 (.pointer (some ⟨b, off, none⟩)) x H = match H.get b with | .cells true e c => (if x.cells.size = 1 ∧ isTup x = false ∧ off + 1 ≤ c.length then some (H.put b (.cells true e (setAll c off x.cells.toList))) else none) | _ => none := astore_sz sz135 b off x
theorem al135 (X : Outer) (ops : Array Oper) (dd : Option Tmp) (ty : TypeId) (pos : String) (af : Array Edge) (e : Env) (H : Hp) (K : Value → Hp → Prop) : Step Try.prog X ops ⟨dd, .alloc 135, ty, pos, af, none⟩ e H K = K (.pointer (some ⟨H.next, 0, none⟩)) (H.push (.cells true 135 [.int .u8 0])) := Step_alloc zt135 rfl
theorem ld136 (H : Hp) (a : Addr) : aload Try.prog 136 (.pointer (some a)) H = cellAt H a := aload_cell ag136 kn136 a
theorem ap136 (cs : Array Value) (off : Nat) : apart Try.prog 136 cs off = cs[off]? := apart_cell ag136 kn136 cs off
theorem so136 (H : Hp) (b off : Nat) (x : Value) : astore Try.prog 136 (.pointer (some ⟨b, off, none⟩)) x H = match H.get b with | .cells true e c => (if x.cells.size = 1 ∧ isTup x = false ∧ off + 1 ≤ c.length then some (H.put b (.cells true e (setAll c off x.cells.toList))) else none) | _ => none := astore_sz sz136 b off x
theorem al136 (X : Outer) (ops : Array Oper) (dd : Option Tmp) (ty : TypeId) (pos : String) (af : Array Edge) (e : Env) (H : Hp) (K : Value → Hp → Prop) : Step Try.prog X ops ⟨dd, .alloc 136, ty, pos, af, none⟩ e H K = K (.pointer (some ⟨H.next, 0, none⟩)) (H.push (.cells true 136 [.int .u8 0])) := Step_alloc zt136 rfl
theorem ld137 (H : Hp) (a : Addr) : aload Try.prog 137 (.pointer (some a)) H = cellAt H a := aload_cell ag137 kn137 a
theorem ap137 (cs : Array Value) (off : Nat) : apart Try.prog 137 cs off = cs[off]? := apart_cell ag137 kn137 cs off
theorem so137 (H : Hp) (b off : Nat) (x : Value) : astore Try.prog 137 (.pointer (some ⟨b, off, none⟩)) x H = match H.get b with | .cells true e c => (if x.cells.size = 1 ∧ isTup x = false ∧ off + 1 ≤ c.length then some (H.put b (.cells true e (setAll c off x.cells.toList))) else none) | _ => none := astore_sz sz137 b off x
theorem al137 (X : Outer) (ops : Array Oper) (dd : Option Tmp) (ty : TypeId) (pos : String) (af : Array Edge) (e : Env) (H : Hp) (K : Value → Hp → Prop) : Step Try.prog X ops ⟨dd, .alloc 137, ty, pos, af, none⟩ e H K = K (.pointer (some ⟨H.next, 0, none⟩)) (H.push (.cells true 137 [.nilFunc])) := Step_alloc zt137 rfl
theorem ld138 (H : Hp) (a : Addr) : aload Try.prog 138 (.pointer (some a)) H = cellAt H a := aload_cell ag138 kn138 a
theorem ap138 (cs : Array Value) (off : Nat) : apart Try.prog 138 cs off = cs[off]? := apart_cell ag138 kn138 cs off
theorem so138 (H : Hp) (b off : Nat) (x : Value) : astore Try.prog 138 (.pointer (some ⟨b, off, none⟩)) x H = match H.get b with | .cells true e c => (if x.cells.size = 1 ∧ isTup x = false ∧ off + 1 ≤ c.length then some (H.put b (.cells true e (setAll c off x.cells.toList))) else none) | _ => none := astore_sz sz138 b off x
theorem al138 (X : Outer) (ops : Array Oper) (dd : Option Tmp) (ty : TypeId) (pos : String) (af : Array Edge) (e : Env) (H : Hp) (K : Value → Hp → Prop) : Step Try.prog X ops ⟨dd, .alloc 138, ty, pos, af, none⟩ e H K = K (.pointer (some ⟨H.next, 0, none⟩)) (H.push (.cells true 138 [.int .i32 0])) := Step_alloc zt138 rfl
theorem ld139 (H : Hp) (a : Addr) : aload Try.prog 139 (.pointer (some a)) H = cellAt H a := aload_cell ag139 kn139 a
theorem ap139 (cs : Array Value) (off : Nat) : apart Try.prog 139 cs off = cs[off]? := apart_cell ag139 kn139 cs off
theorem so139 (H : Hp) (b off : Nat) (x : Value) : astore Try.prog 139 (.pointer (some ⟨b, off, none⟩)) x H = match H.get b with | .cells true e c => (if x.cells.size = 1 ∧ isTup x = false ∧ off + 1 ≤ c.length then some (H.put b (.cells true e (setAll c off x.cells.toList))) else none) | _ => none := astore_sz sz139 b off x
theorem al139 (X : Outer) (ops : Array Oper) (dd : Option Tmp) (ty : TypeId) (pos : String) (af : Array Edge) (e : Env) (H : Hp) (K : Value → Hp → Prop) : Step Try.prog X ops ⟨dd, .alloc 139, ty, pos, af, none⟩ e H K = K (.pointer (some ⟨H.next, 0, none⟩)) (H.push (.cells true 139 [.int .i32 0])) := Step_alloc zt139 rfl
theorem ld140 (H : Hp) (a : Addr) : aload Try.prog 140 (.pointer (some a)) H = (cellsAt H a 11).map fun c => .agg c.toArray := aload_agg ag140 sz140 a
theorem ap140 (cs : Array Value) (off : Nat) : apart Try.prog 140 cs off = if off + 11 ≤ cs.size then some (.agg (cs.extract off (off + 11))) else none := apart_agg ag140 sz140 cs off
theorem so140 (H : Hp) (b off : Nat) (x : Value) : astore Try.prog 140 (.pointer (some ⟨b, off, none⟩)) x H = match H.get b with | .cells true e c => (if x.cells.size = 11 ∧ isTup x = false ∧ off + 11 ≤ c.length then some (H.put b (.cells true e (setAll c off x.cells.toList))) else none) | _ => none := astore_sz sz140 b off x
theorem al140 (X : Outer) (ops : Array Oper) (dd : Option Tmp) (ty : TypeId) (pos : String) (af : Array Edge) (e : Env) (H : Hp) (K : Value → Hp → Prop) : Step Try.prog X ops ⟨dd, .alloc 140, ty, pos, af, none⟩ e H K = K (.pointer (some ⟨H.next, 0, none⟩)) (H.push (.cells true 140 [.int .u64 0, .int .u64 0, .int .u32 0, .int .u8 0, .int .u8 0, .int .u8 0, .int .u8 0, .nilFunc, .pointer none, .int .i32 0, .int .i32 0])) := Step_alloc zt140 rfl
theorem fa140_0 (ρ : Operand → Value) (H : Hp) (x : Operand) : lop Try.prog ρ H (.fieldAddr 140 x 0) = match ρ x with | .pointer (some a) => (if a.spot = none then some (.pointer (some ⟨a.block, a.off + 0, none⟩)) else none) | _ => none := lop_fieldAddr x 0 0 1 pl140_0 (by decide)
theorem fd140_0 (ρ : Operand → Value) (H : Hp) (x : Operand) : lop Try.prog ρ H (.field 140 x 0) = match ρ x with | .agg cs => apart Try.prog 12 cs 0 | _ => none := lop_field x 0 0 1 12 pl140_0 ft140_0
theorem fa140_1 (ρ : Operand → Value) (H : Hp) (x : Operand) : lop Try.prog ρ H (.fieldAddr 140 x 1) = match ρ x with | .pointer (some a) => (if a.spot = none then some (.pointer (some ⟨a.block, a.off + 1, none⟩)) else none) | _ => none := lop_fieldAddr x 1 1 1 pl140_1 (by decide)
theorem fd140_1 (ρ : Operand → Value) (H : Hp) (x : Operand) : lop Try.prog ρ H (.field 140 x 1) = match ρ x with | .agg cs => apart Try.prog 12 cs 1 | _ => none := lop_field x 1 1 1 12 pl140_1 ft140_1
theorem fa140_2 (ρ : Operand → Value) (H : Hp) (x : Operand) : lop Try.prog ρ H (.fieldAddr 140 x 2) = match ρ x with | .pointer (some a) => (if a.spot = none then some (.pointer (some ⟨a.block, a.off + 2, none⟩)) else none) | _ => none := lop_fieldAddr x 2 2 1 pl140_2 (by decide)
theorem fd140_2 (ρ : Operand → Value) (H : Hp) (x : Operand) : lop Try.prog ρ H (.field 140 x 2) = match ρ x with | .agg cs => apart Try.prog 134 cs 2 | _ => none := lop_field x 2 2 1 134 pl140_2 ft140_2
theorem fa140_3 (ρ : Operand → Value) (H : Hp) (x : Operand) : lop Try.prog ρ H (.fieldAddr 140 x 3) = match ρ x with | .pointer (some a) => (if a.spot = none then some (.pointer (some ⟨a.block, a.off + 3, none⟩)) else none) | _ => none := lop_fieldAddr x 3 3 1 pl140_3 (by decide)
theorem fd140_3 (ρ : Operand → Value) (H : Hp) (x : Operand) : lop Try.prog ρ H (.field 140 x 3) = match ρ x with | .agg cs => apart Try.prog 135 cs 3 | _ => none := lop_field x 3 3 1 135 pl140_3 ft140_3
theorem fa140_4 (ρ : Operand → Value) (H : Hp) (x : Operand) : lop Try.prog ρ H (.fieldAddr 140 x 4) = match ρ x with | .pointer (some a) => (if a.spot = none then some (.pointer (some ⟨a.block, a.off + 4, none⟩)) else none) | _ => none := lop_fieldAddr x 4 4 1 pl140_4 (by decide)
theorem fd140_4 (ρ : Operand → Value) (H : Hp) (x : Operand) : lop Try.prog ρ H (.field 140 x 4) = match ρ x with | .agg cs => apart Try.prog 5 cs 4 | _ => none := lop_field x 4 4 1 5 pl140_4 ft140_4
theorem fa140_5 (ρ : Operand → Value) (H : Hp) (x : Operand) : lop Try.prog ρ H (.fieldAddr 140 x 5) = match ρ x with | .pointer (some a) => (if a.spot = none then some (.pointer (some ⟨a.block, a.off + 5, none⟩)) else none) | _ => none := lop_fieldAddr x 5 5 1 pl140_5 (by decide)
theorem fd140_5 (ρ : Operand → Value) (H : Hp) (x : Operand) : lop Try.prog ρ H (.field 140 x 5) = match ρ x with | .agg cs => apart Try.prog 5 cs 5 | _ => none := lop_field x 5 5 1 5 pl140_5 ft140_5
theorem fa140_6 (ρ : Operand → Value) (H : Hp) (x : Operand) : lop Try.prog ρ H (.fieldAddr 140 x 6) = match ρ x with | .pointer (some a) => (if a.spot = none then some (.pointer (some ⟨a.block, a.off + 6, none⟩)) else none) | _ => none := lop_fieldAddr x 6 6 1 pl140_6 (by decide)
theorem fd140_6 (ρ : Operand → Value) (H : Hp) (x : Operand) : lop Try.prog ρ H (.field 140 x 6) = match ρ x with | .agg cs => apart Try.prog 136 cs 6 | _ => none := lop_field x 6 6 1 136 pl140_6 ft140_6
theorem fa140_7 (ρ : Operand → Value) (H : Hp) (x : Operand) : lop Try.prog ρ H (.fieldAddr 140 x 7) = match ρ x with | .pointer (some a) => (if a.spot = none then some (.pointer (some ⟨a.block, a.off + 7, none⟩)) else none) | _ => none := lop_fieldAddr x 7 7 1 pl140_7 (by decide)
theorem fd140_7 (ρ : Operand → Value) (H : Hp) (x : Operand) : lop Try.prog ρ H (.field 140 x 7) = match ρ x with | .agg cs => apart Try.prog 137 cs 7 | _ => none := lop_field x 7 7 1 137 pl140_7 ft140_7
theorem fa140_8 (ρ : Operand → Value) (H : Hp) (x : Operand) : lop Try.prog ρ H (.fieldAddr 140 x 8) = match ρ x with | .pointer (some a) => (if a.spot = none then some (.pointer (some ⟨a.block, a.off + 8, none⟩)) else none) | _ => none := lop_fieldAddr x 8 8 1 pl140_8 (by decide)
theorem fd140_8 (ρ : Operand → Value) (H : Hp) (x : Operand) : lop Try.prog ρ H (.field 140 x 8) = match ρ x with | .agg cs => apart Try.prog 126 cs 8 | _ => none := lop_field x 8 8 1 126 pl140_8 ft140_8
theorem fa140_9 (ρ : Operand → Value) (H : Hp) (x : Operand) : lop Try.prog ρ H (.fieldAddr 140 x 9) = match ρ x with | .pointer (some a) => (if a.spot = none then some (.pointer (some ⟨a.block, a.off + 9, none⟩)) else none) | _ => none := lop_fieldAddr x 9 9 1 pl140_9 (by decide)
theorem fd140_9 (ρ : Operand → Value) (H : Hp) (x : Operand) : lop Try.prog ρ H (.field 140 x 9) = match ρ x with | .agg cs => apart Try.prog 138 cs 9 | _ => none := lop_field x 9 9 1 138 pl140_9 ft140_9
theorem fa140_10 (ρ : Operand → Value) (H : Hp) (x : Operand) : lop Try.prog ρ H (.fieldAddr 140 x 10) = match ρ x with | .pointer (some a) => (if a.spot = none then some (.pointer (some ⟨a.block, a.off + 10, none⟩)) else none) | _ => none := lop_fieldAddr x 10 10 1 pl140_10 (by decide)
theorem fd140_10 (ρ : Operand → Value) (H : Hp) (x : Operand) : lop Try.prog ρ H (.field 140 x 10) = match ρ x with | .agg cs => apart Try.prog 139 cs 10 | _ => none := lop_field x 10 10 1 139 pl140_10 ft140_10
theorem bd140 (ρ : Operand → Value) (H : Hp) (parts : Array (Nat × Operand)) : lop Try.prog ρ H (.build 140 parts) = if parts.toList.all (fun p => !isTup (ρ p.2)) then (afill (place Try.prog 140) (Value.cells (.agg #[.int .u64 0, .int .u64 0, .int .u32 0, .int .u8 0, .int .u8 0, .int .u8 0, .int .u8 0, .nilFunc, .pointer none, .int .i32 0, .int .i32 0])).toList (parts.toList.map fun p => (p.1, ρ p.2))).map fun cs => .agg cs.toArray else none := lop_build parts _ zt140 sd140 rfl
theorem ld141 (H : Hp) (a : Addr) : aload Try.prog 141 (.pointer (some a)) H = (cellsAt H a 11).map fun c => .agg c.toArray := aload_agg ag141 sz141 a
theorem ap141 (cs : Array Value) (off : Nat) : apart Try.prog 141 cs off = if off + 11 ≤ cs.size then some (.agg (cs.extract off (off + 11))) else none := apart_agg ag141 sz141 cs off
theorem so141 (H : Hp) (b off : Nat) (x : Value) : astore Try.prog 141 (.pointer (some ⟨b, off, none⟩)) x H = match H.get b with | .cells true e c => (if x.cells.size = 11 ∧ isTup x = false ∧ off + 11 ≤ c.length then some (H.put b (.cells true e (setAll c off x.cells.toList))) else none) | _ => none := astore_sz sz141 b off x
theorem al141 (X : Outer) (ops : Array Oper) (dd : Option Tmp) (ty : TypeId) (pos : String) (af : Array Edge) (e : Env) (H : Hp) (K : Value → Hp → Prop) : Step Try.prog X ops ⟨dd, .alloc 141, ty, pos, af, none⟩ e H K = K (.pointer (some ⟨H.next, 0, none⟩)) (H.push (.cells true 141 [.int .u64 0, .int .u64 0, .int .u32 0, .int .u8 0, .int .u8 0, .int .u8 0, .int .u8 0, .nilFunc, .pointer none, .int .i32 0, .int .i32 0])) := Step_alloc zt141 rfl
theorem fa141_0 (ρ : Operand → Value) (H : Hp) (x : Operand) : lop Try.prog ρ H (.fieldAddr 141 x 0) = match ρ x with | .pointer (some a) => (if a.spot = none then some (.pointer (some ⟨a.block, a.off + 0, none⟩)) else none) | _ => none := lop_fieldAddr x 0 0 1 pl141_0 (by decide)
theorem fd141_0 (ρ : Operand → Value) (H : Hp) (x : Operand) : lop Try.prog ρ H (.field 141 x 0) = match ρ x with | .agg cs => apart Try.prog 12 cs 0 | _ => none := lop_field x 0 0 1 12 pl141_0 ft141_0
theorem fa141_1 (ρ : Operand → Value) (H : Hp) (x : Operand) : lop Try.prog ρ H (.fieldAddr 141 x 1) = match ρ x with | .pointer (some a) => (if a.spot = none then some (.pointer (some ⟨a.block, a.off + 1, none⟩)) else none) | _ => none := lop_fieldAddr x 1 1 1 pl141_1 (by decide)
theorem fd141_1 (ρ : Operand → Value) (H : Hp) (x : Operand) : lop Try.prog ρ H (.field 141 x 1) = match ρ x with | .agg cs => apart Try.prog 12 cs 1 | _ => none := lop_field x 1 1 1 12 pl141_1 ft141_1
theorem fa141_2 (ρ : Operand → Value) (H : Hp) (x : Operand) : lop Try.prog ρ H (.fieldAddr 141 x 2) = match ρ x with | .pointer (some a) => (if a.spot = none then some (.pointer (some ⟨a.block, a.off + 2, none⟩)) else none) | _ => none := lop_fieldAddr x 2 2 1 pl141_2 (by decide)
theorem fd141_2 (ρ : Operand → Value) (H : Hp) (x : Operand) : lop Try.prog ρ H (.field 141 x 2) = match ρ x with | .agg cs => apart Try.prog 134 cs 2 | _ => none := lop_field x 2 2 1 134 pl141_2 ft141_2
theorem fa141_3 (ρ : Operand → Value) (H : Hp) (x : Operand) : lop Try.prog ρ H (.fieldAddr 141 x 3) = match ρ x with | .pointer (some a) => (if a.spot = none then some (.pointer (some ⟨a.block, a.off + 3, none⟩)) else none) | _ => none := lop_fieldAddr x 3 3 1 pl141_3 (by decide)
theorem fd141_3 (ρ : Operand → Value) (H : Hp) (x : Operand) : lop Try.prog ρ H (.field 141 x 3) = match ρ x with | .agg cs => apart Try.prog 135 cs 3 | _ => none := lop_field x 3 3 1 135 pl141_3 ft141_3
theorem fa141_4 (ρ : Operand → Value) (H : Hp) (x : Operand) : lop Try.prog ρ H (.fieldAddr 141 x 4) = match ρ x with | .pointer (some a) => (if a.spot = none then some (.pointer (some ⟨a.block, a.off + 4, none⟩)) else none) | _ => none := lop_fieldAddr x 4 4 1 pl141_4 (by decide)
theorem fd141_4 (ρ : Operand → Value) (H : Hp) (x : Operand) : lop Try.prog ρ H (.field 141 x 4) = match ρ x with | .agg cs => apart Try.prog 5 cs 4 | _ => none := lop_field x 4 4 1 5 pl141_4 ft141_4
theorem fa141_5 (ρ : Operand → Value) (H : Hp) (x : Operand) : lop Try.prog ρ H (.fieldAddr 141 x 5) = match ρ x with | .pointer (some a) => (if a.spot = none then some (.pointer (some ⟨a.block, a.off + 5, none⟩)) else none) | _ => none := lop_fieldAddr x 5 5 1 pl141_5 (by decide)
theorem fd141_5 (ρ : Operand → Value) (H : Hp) (x : Operand) : lop Try.prog ρ H (.field 141 x 5) = match ρ x with | .agg cs => apart Try.prog 5 cs 5 | _ => none := lop_field x 5 5 1 5 pl141_5 ft141_5
theorem fa141_6 (ρ : Operand → Value) (H : Hp) (x : Operand) : lop Try.prog ρ H (.fieldAddr 141 x 6) = match ρ x with | .pointer (some a) => (if a.spot = none then some (.pointer (some ⟨a.block, a.off + 6, none⟩)) else none) | _ => none := lop_fieldAddr x 6 6 1 pl141_6 (by decide)
theorem fd141_6 (ρ : Operand → Value) (H : Hp) (x : Operand) : lop Try.prog ρ H (.field 141 x 6) = match ρ x with | .agg cs => apart Try.prog 136 cs 6 | _ => none := lop_field x 6 6 1 136 pl141_6 ft141_6
theorem fa141_7 (ρ : Operand → Value) (H : Hp) (x : Operand) : lop Try.prog ρ H (.fieldAddr 141 x 7) = match ρ x with | .pointer (some a) => (if a.spot = none then some (.pointer (some ⟨a.block, a.off + 7, none⟩)) else none) | _ => none := lop_fieldAddr x 7 7 1 pl141_7 (by decide)
theorem fd141_7 (ρ : Operand → Value) (H : Hp) (x : Operand) : lop Try.prog ρ H (.field 141 x 7) = match ρ x with | .agg cs => apart Try.prog 137 cs 7 | _ => none := lop_field x 7 7 1 137 pl141_7 ft141_7
theorem fa141_8 (ρ : Operand → Value) (H : Hp) (x : Operand) : lop Try.prog ρ H (.fieldAddr 141 x 8) = match ρ x with | .pointer (some a) => (if a.spot = none then some (.pointer (some ⟨a.block, a.off + 8, none⟩)) else none) | _ => none := lop_fieldAddr x 8 8 1 pl141_8 (by decide)
theorem fd141_8 (ρ : Operand → Value) (H : Hp) (x : Operand) : lop Try.prog ρ H (.field 141 x 8) = match ρ x with | .agg cs => apart Try.prog 126 cs 8 | _ => none := lop_field x 8 8 1 126 pl141_8 ft141_8
theorem fa141_9 (ρ : Operand → Value) (H : Hp) (x : Operand) : lop Try.prog ρ H (.fieldAddr 141 x 9) = match ρ x with | .pointer (some a) => (if a.spot = none then some (.pointer (some ⟨a.block, a.off + 9, none⟩)) else none) | _ => none := lop_fieldAddr x 9 9 1 pl141_9 (by decide)
theorem fd141_9 (ρ : Operand → Value) (H : Hp) (x : Operand) : lop Try.prog ρ H (.field 141 x 9) = match ρ x with | .agg cs => apart Try.prog 138 cs 9 | _ => none := lop_field x 9 9 1 138 pl141_9 ft141_9
theorem fa141_10 (ρ : Operand → Value) (H : Hp) (x : Operand) : lop Try.prog ρ H (.fieldAddr 141 x 10) = match ρ x with | .pointer (some a) => (if a.spot = none then some (.pointer (some ⟨a.block, a.off + 10, none⟩)) else none) | _ => none := lop_fieldAddr x 10 10 1 pl141_10 (by decide)
theorem fd141_10 (ρ : Operand → Value) (H : Hp) (x : Operand) : lop Try.prog ρ H (.field 141 x 10) = match ρ x with | .agg cs => apart Try.prog 139 cs 10 | _ => none := lop_field x 10 10 1 139 pl141_10 ft141_10
theorem bd141 (ρ : Operand → Value) (H : Hp) (parts : Array (Nat × Operand)) : lop Try.prog ρ H (.build 141 parts) = if parts.toList.all (fun p => !isTup (ρ p.2)) then (afill (place Try.prog 141) (Value.cells (.agg #[.int .u64 0, .int .u64 0, .int .u32 0, .int .u8 0, .int .u8 0, .int .u8 0, .int .u8 0, .nilFunc, .pointer none, .int .i32 0, .int .i32 0])).toList (parts.toList.map fun p => (p.1, ρ p.2))).map fun cs => .agg cs.toArray else none := lop_build parts _ zt141 sd141 rfl
theorem fk2 : funcOk Try.prog 2 = true := by kernel_rfl
theorem fk3 : funcOk Try.prog 3 = true := by kernel_rfl
theorem fk4 : funcOk Try.prog 4 = true := by kernel_rfl
theorem fk5 : funcOk Try.prog 5 = true := by kernel_rfl
theorem fk6 : funcOk Try.prog 6 = true := by kernel_rfl
theorem fk7 : funcOk Try.prog 7 = true := by kernel_rfl
theorem fk8 : funcOk Try.prog 8 = true := by kernel_rfl
theorem fk9 : funcOk Try.prog 9 = true := by kernel_rfl
theorem fk10 : funcOk Try.prog 10 = true := by kernel_rfl
theorem fk11 : funcOk Try.prog 11 = true := by kernel_rfl
theorem fk12 : funcOk Try.prog 12 = true := by kernel_rfl
theorem fk13 : funcOk Try.prog 13 = true := by kernel_rfl
theorem fk14 : funcOk Try.prog 14 = true := by kernel_rfl
theorem fk15 : funcOk Try.prog 15 = true := by kernel_rfl
theorem fk16 : funcOk Try.prog 16 = true := by kernel_rfl
theorem fk17 : funcOk Try.prog 17 = true := by kernel_rfl
theorem fk18 : funcOk Try.prog 18 = true := by kernel_rfl
theorem fk19 : funcOk Try.prog 19 = true := by kernel_rfl
theorem fk20 : funcOk Try.prog 20 = true := by kernel_rfl
theorem fk21 : funcOk Try.prog 21 = true := by kernel_rfl
theorem fk22 : funcOk Try.prog 22 = true := by kernel_rfl
theorem fk23 : funcOk Try.prog 23 = true := by kernel_rfl
theorem fk24 : funcOk Try.prog 24 = true := by kernel_rfl
theorem fk25 : funcOk Try.prog 25 = true := by kernel_rfl
theorem fk26 : funcOk Try.prog 26 = true := by kernel_rfl
theorem fk27 : funcOk Try.prog 27 = true := by kernel_rfl
theorem fk28 : funcOk Try.prog 28 = true := by kernel_rfl
theorem fk29 : funcOk Try.prog 29 = true := by kernel_rfl
theorem fk30 : funcOk Try.prog 30 = true := by kernel_rfl
theorem fk31 : funcOk Try.prog 31 = true := by kernel_rfl
theorem fk32 : funcOk Try.prog 32 = true := by kernel_rfl
theorem fk33 : funcOk Try.prog 33 = true := by kernel_rfl
theorem fk34 : funcOk Try.prog 34 = true := by kernel_rfl
theorem fk35 : funcOk Try.prog 35 = true := by kernel_rfl
theorem fk36 : funcOk Try.prog 36 = true := by kernel_rfl
theorem fk37 : funcOk Try.prog 37 = true := by kernel_rfl
theorem fk38 : funcOk Try.prog 38 = true := by kernel_rfl
theorem fk39 : funcOk Try.prog 39 = true := by kernel_rfl
theorem fk40 : funcOk Try.prog 40 = true := by kernel_rfl
theorem fk41 : funcOk Try.prog 41 = true := by kernel_rfl
theorem fk42 : funcOk Try.prog 42 = true := by kernel_rfl
theorem fk43 : funcOk Try.prog 43 = true := by kernel_rfl
theorem fk44 : funcOk Try.prog 44 = true := by kernel_rfl
theorem fk45 : funcOk Try.prog 45 = true := by kernel_rfl
theorem fk46 : funcOk Try.prog 46 = true := by kernel_rfl
theorem fk47 : funcOk Try.prog 47 = true := by kernel_rfl
theorem fk48 : funcOk Try.prog 48 = true := by kernel_rfl
theorem fk49 : funcOk Try.prog 49 = true := by kernel_rfl
theorem fk50 : funcOk Try.prog 50 = true := by kernel_rfl
theorem fk51 : funcOk Try.prog 51 = true := by kernel_rfl
theorem fk52 : funcOk Try.prog 52 = true := by kernel_rfl
theorem fk53 : funcOk Try.prog 53 = true := by kernel_rfl
theorem fk54 : funcOk Try.prog 54 = true := by kernel_rfl
theorem fk55 : funcOk Try.prog 55 = true := by kernel_rfl
theorem fk56 : funcOk Try.prog 56 = true := by kernel_rfl
theorem fk57 : funcOk Try.prog 57 = true := by kernel_rfl
theorem fk58 : funcOk Try.prog 58 = true := by kernel_rfl
theorem fk59 : funcOk Try.prog 59 = true := by kernel_rfl
theorem fk60 : funcOk Try.prog 60 = true := by kernel_rfl
theorem fk61 : funcOk Try.prog 61 = true := by kernel_rfl
theorem fk62 : funcOk Try.prog 62 = true := by kernel_rfl
theorem fk63 : funcOk Try.prog 63 = true := by kernel_rfl
theorem fk64 : funcOk Try.prog 64 = true := by kernel_rfl
theorem fk65 : funcOk Try.prog 65 = true := by kernel_rfl
theorem fk66 : funcOk Try.prog 66 = true := by kernel_rfl
theorem fk67 : funcOk Try.prog 67 = true := by kernel_rfl
theorem fk68 : funcOk Try.prog 68 = true := by kernel_rfl
theorem fk69 : funcOk Try.prog 69 = true := by kernel_rfl
theorem fk70 : funcOk Try.prog 70 = true := by kernel_rfl
theorem fk71 : funcOk Try.prog 71 = true := by kernel_rfl
theorem fk72 : funcOk Try.prog 72 = true := by kernel_rfl
theorem fk73 : funcOk Try.prog 73 = true := by kernel_rfl
theorem fk74 : funcOk Try.prog 74 = true := by kernel_rfl
end Go.Proofs.Ytlndidjdeneolaa.Abs
