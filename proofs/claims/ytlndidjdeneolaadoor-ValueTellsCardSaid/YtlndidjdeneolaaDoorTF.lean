/- Facts of the program's types, printed by wip/tools/TG.lean. -/
import Derived.Test.YtlndidjdeneolaaDoorA15
import Derived.Test.YtlndidjdeneolaaDoorProg
import Derived.KernelRfl
set_option linter.unusedVariables false
namespace Go.Proofs.YtlndidjdeneolaaDoor.Abs
open Go
theorem ag0 : isAggT Tryd.prog 0 = false := by kernel_rfl
theorem sz0 : szT Tryd.prog 0 = some 1 := by kernel_rfl
theorem kn0 : knownT Tryd.prog 0 = true := by kernel_rfl
theorem ag1 : isAggT Tryd.prog 1 = false := by kernel_rfl
theorem sz1 : szT Tryd.prog 1 = some 1 := by kernel_rfl
theorem kn1 : knownT Tryd.prog 1 = true := by kernel_rfl
theorem zt1 : zeroT Tryd.prog 1 = some (.nilFunc) := by kernel_rfl
theorem ag2 : isAggT Tryd.prog 2 = false := by kernel_rfl
theorem sz2 : szT Tryd.prog 2 = some 1 := by kernel_rfl
theorem kn2 : knownT Tryd.prog 2 = true := by kernel_rfl
theorem zt2 : zeroT Tryd.prog 2 = some (.int .i64 0) := by kernel_rfl
theorem ag3 : isAggT Tryd.prog 3 = false := by kernel_rfl
theorem sz3 : szT Tryd.prog 3 = some 1 := by kernel_rfl
theorem kn3 : knownT Tryd.prog 3 = true := by kernel_rfl
theorem zt3 : zeroT Tryd.prog 3 = some (.int .i64 0) := by kernel_rfl
theorem ag4 : isAggT Tryd.prog 4 = false := by kernel_rfl
theorem sz4 : szT Tryd.prog 4 = some 1 := by kernel_rfl
theorem kn4 : knownT Tryd.prog 4 = true := by kernel_rfl
theorem zt4 : zeroT Tryd.prog 4 = some (.bool false) := by kernel_rfl
theorem ag5 : isAggT Tryd.prog 5 = false := by kernel_rfl
theorem sz5 : szT Tryd.prog 5 = some 1 := by kernel_rfl
theorem kn5 : knownT Tryd.prog 5 = true := by kernel_rfl
theorem zt5 : zeroT Tryd.prog 5 = some (.int .u8 0) := by kernel_rfl
theorem ag6 : isAggT Tryd.prog 6 = false := by kernel_rfl
theorem sz6 : szT Tryd.prog 6 = some 1 := by kernel_rfl
theorem kn6 : knownT Tryd.prog 6 = true := by kernel_rfl
theorem zt6 : zeroT Tryd.prog 6 = some (.int .u8 0) := by kernel_rfl
theorem ag7 : isAggT Tryd.prog 7 = true := by kernel_rfl
theorem sz7 : szT Tryd.prog 7 = some 4 := by kernel_rfl
theorem zt7 : zeroT Tryd.prog 7 = some (.agg #[.int .i64 0, .int .i64 0, .bool false, .int .u8 0]) := by kernel_rfl
theorem sd7 : sized Tryd.prog 7 = true := by kernel_rfl
theorem pl7_0 : place Tryd.prog 7 0 = some (0, 1) := by kernel_rfl
theorem ft7_0 : ftype Tryd.prog 7 0 = some 2 := by kernel_rfl
theorem pl7_1 : place Tryd.prog 7 1 = some (1, 1) := by kernel_rfl
theorem ft7_1 : ftype Tryd.prog 7 1 = some 3 := by kernel_rfl
theorem pl7_2 : place Tryd.prog 7 2 = some (2, 1) := by kernel_rfl
theorem ft7_2 : ftype Tryd.prog 7 2 = some 4 := by kernel_rfl
theorem pl7_3 : place Tryd.prog 7 3 = some (3, 1) := by kernel_rfl
theorem ft7_3 : ftype Tryd.prog 7 3 = some 6 := by kernel_rfl
theorem ag8 : isAggT Tryd.prog 8 = true := by kernel_rfl
theorem sz8 : szT Tryd.prog 8 = some 4 := by kernel_rfl
theorem zt8 : zeroT Tryd.prog 8 = some (.agg #[.int .i64 0, .int .i64 0, .bool false, .int .u8 0]) := by kernel_rfl
theorem sd8 : sized Tryd.prog 8 = true := by kernel_rfl
theorem pl8_0 : place Tryd.prog 8 0 = some (0, 1) := by kernel_rfl
theorem ft8_0 : ftype Tryd.prog 8 0 = some 2 := by kernel_rfl
theorem pl8_1 : place Tryd.prog 8 1 = some (1, 1) := by kernel_rfl
theorem ft8_1 : ftype Tryd.prog 8 1 = some 3 := by kernel_rfl
theorem pl8_2 : place Tryd.prog 8 2 = some (2, 1) := by kernel_rfl
theorem ft8_2 : ftype Tryd.prog 8 2 = some 4 := by kernel_rfl
theorem pl8_3 : place Tryd.prog 8 3 = some (3, 1) := by kernel_rfl
theorem ft8_3 : ftype Tryd.prog 8 3 = some 6 := by kernel_rfl
theorem ag9 : isAggT Tryd.prog 9 = false := by kernel_rfl
theorem sz9 : szT Tryd.prog 9 = some 1 := by kernel_rfl
theorem kn9 : knownT Tryd.prog 9 = true := by kernel_rfl
theorem zt9 : zeroT Tryd.prog 9 = some (.string .empty) := by kernel_rfl
theorem ag10 : isAggT Tryd.prog 10 = false := by kernel_rfl
theorem sz10 : szT Tryd.prog 10 = some 1 := by kernel_rfl
theorem kn10 : knownT Tryd.prog 10 = true := by kernel_rfl
theorem zt10 : zeroT Tryd.prog 10 = some (.string .empty) := by kernel_rfl
theorem ag11 : isAggT Tryd.prog 11 = false := by kernel_rfl
theorem sz11 : szT Tryd.prog 11 = some 1 := by kernel_rfl
theorem kn11 : knownT Tryd.prog 11 = true := by kernel_rfl
theorem zt11 : zeroT Tryd.prog 11 = some (.string .empty) := by kernel_rfl
theorem ag12 : isAggT Tryd.prog 12 = false := by kernel_rfl
theorem sz12 : szT Tryd.prog 12 = some 1 := by kernel_rfl
theorem kn12 : knownT Tryd.prog 12 = true := by kernel_rfl
theorem zt12 : zeroT Tryd.prog 12 = some (.int .u64 0) := by kernel_rfl
theorem ag13 : isAggT Tryd.prog 13 = true := by kernel_rfl
theorem sz13 : szT Tryd.prog 13 = some 2 := by kernel_rfl
theorem zt13 : zeroT Tryd.prog 13 = some (.agg #[.string .empty, .int .u64 0]) := by kernel_rfl
theorem sd13 : sized Tryd.prog 13 = true := by kernel_rfl
theorem pl13_0 : place Tryd.prog 13 0 = some (0, 1) := by kernel_rfl
theorem ft13_0 : ftype Tryd.prog 13 0 = some 9 := by kernel_rfl
theorem pl13_1 : place Tryd.prog 13 1 = some (1, 1) := by kernel_rfl
theorem ft13_1 : ftype Tryd.prog 13 1 = some 12 := by kernel_rfl
theorem ag14 : isAggT Tryd.prog 14 = true := by kernel_rfl
theorem sz14 : szT Tryd.prog 14 = some 2 := by kernel_rfl
theorem zt14 : zeroT Tryd.prog 14 = some (.agg #[.string .empty, .int .u64 0]) := by kernel_rfl
theorem sd14 : sized Tryd.prog 14 = true := by kernel_rfl
theorem pl14_0 : place Tryd.prog 14 0 = some (0, 1) := by kernel_rfl
theorem ft14_0 : ftype Tryd.prog 14 0 = some 9 := by kernel_rfl
theorem pl14_1 : place Tryd.prog 14 1 = some (1, 1) := by kernel_rfl
theorem ft14_1 : ftype Tryd.prog 14 1 = some 12 := by kernel_rfl
theorem ag15 : isAggT Tryd.prog 15 = false := by kernel_rfl
theorem sz15 : szT Tryd.prog 15 = some 1 := by kernel_rfl
theorem kn15 : knownT Tryd.prog 15 = true := by kernel_rfl
theorem zt15 : zeroT Tryd.prog 15 = some (.pointer none) := by kernel_rfl
theorem ag16 : isAggT Tryd.prog 16 = false := by kernel_rfl
theorem sz16 : szT Tryd.prog 16 = some 1 := by kernel_rfl
theorem kn16 : knownT Tryd.prog 16 = true := by kernel_rfl
theorem zt16 : zeroT Tryd.prog 16 = some (.pointer none) := by kernel_rfl
theorem ag17 : isAggT Tryd.prog 17 = false := by kernel_rfl
theorem sz17 : szT Tryd.prog 17 = some 1 := by kernel_rfl
theorem kn17 : knownT Tryd.prog 17 = true := by kernel_rfl
theorem zt17 : zeroT Tryd.prog 17 = some (.pointer none) := by kernel_rfl
theorem ag18 : isAggT Tryd.prog 18 = true := by kernel_rfl
theorem sz18 : szT Tryd.prog 18 = some 1 := by kernel_rfl
theorem zt18 : zeroT Tryd.prog 18 = some (.agg #[.pointer none]) := by kernel_rfl
theorem sd18 : sized Tryd.prog 18 = true := by kernel_rfl
theorem pl18_0 : place Tryd.prog 18 0 = some (0, 1) := by kernel_rfl
theorem ft18_0 : ftype Tryd.prog 18 0 = some 17 := by kernel_rfl
theorem ag19 : isAggT Tryd.prog 19 = true := by kernel_rfl
theorem sz19 : szT Tryd.prog 19 = some 1 := by kernel_rfl
theorem zt19 : zeroT Tryd.prog 19 = some (.agg #[.pointer none]) := by kernel_rfl
theorem sd19 : sized Tryd.prog 19 = true := by kernel_rfl
theorem pl19_0 : place Tryd.prog 19 0 = some (0, 1) := by kernel_rfl
theorem ft19_0 : ftype Tryd.prog 19 0 = some 17 := by kernel_rfl
theorem ag20 : isAggT Tryd.prog 20 = false := by kernel_rfl
theorem sz20 : szT Tryd.prog 20 = some 1 := by kernel_rfl
theorem kn20 : knownT Tryd.prog 20 = true := by kernel_rfl
theorem zt20 : zeroT Tryd.prog 20 = some (.nilIface) := by kernel_rfl
theorem ag21 : isAggT Tryd.prog 21 = false := by kernel_rfl
theorem sz21 : szT Tryd.prog 21 = some 1 := by kernel_rfl
theorem kn21 : knownT Tryd.prog 21 = true := by kernel_rfl
theorem zt21 : zeroT Tryd.prog 21 = some (.int .i32 0) := by kernel_rfl
theorem ag22 : isAggT Tryd.prog 22 = true := by kernel_rfl
theorem sz22 : szT Tryd.prog 22 = some 3 := by kernel_rfl
theorem zt22 : zeroT Tryd.prog 22 = some (.agg #[.int .i64 0, .int .i64 0, .string .empty]) := by kernel_rfl
theorem sd22 : sized Tryd.prog 22 = true := by kernel_rfl
theorem pl22_0 : place Tryd.prog 22 0 = some (0, 1) := by kernel_rfl
theorem ft22_0 : ftype Tryd.prog 22 0 = some 3 := by kernel_rfl
theorem pl22_1 : place Tryd.prog 22 1 = some (1, 1) := by kernel_rfl
theorem ft22_1 : ftype Tryd.prog 22 1 = some 3 := by kernel_rfl
theorem pl22_2 : place Tryd.prog 22 2 = some (2, 1) := by kernel_rfl
theorem ft22_2 : ftype Tryd.prog 22 2 = some 9 := by kernel_rfl
theorem ag23 : isAggT Tryd.prog 23 = true := by kernel_rfl
theorem sz23 : szT Tryd.prog 23 = some 3 := by kernel_rfl
theorem zt23 : zeroT Tryd.prog 23 = some (.agg #[.int .i64 0, .int .i64 0, .string .empty]) := by kernel_rfl
theorem sd23 : sized Tryd.prog 23 = true := by kernel_rfl
theorem pl23_0 : place Tryd.prog 23 0 = some (0, 1) := by kernel_rfl
theorem ft23_0 : ftype Tryd.prog 23 0 = some 3 := by kernel_rfl
theorem pl23_1 : place Tryd.prog 23 1 = some (1, 1) := by kernel_rfl
theorem ft23_1 : ftype Tryd.prog 23 1 = some 3 := by kernel_rfl
theorem pl23_2 : place Tryd.prog 23 2 = some (2, 1) := by kernel_rfl
theorem ft23_2 : ftype Tryd.prog 23 2 = some 9 := by kernel_rfl
theorem ag24 : isAggT Tryd.prog 24 = false := by kernel_rfl
theorem sz24 : szT Tryd.prog 24 = some 1 := by kernel_rfl
theorem kn24 : knownT Tryd.prog 24 = true := by kernel_rfl
theorem zt24 : zeroT Tryd.prog 24 = some (.slice none 0 0) := by kernel_rfl
theorem el24 : elemT Tryd.prog 24 = some 5 := by kernel_rfl
theorem if24 : infoT Tryd.prog 5 = some (1, 1) := by kernel_rfl
theorem tk24 : takesT Tryd.prog 24 = true := by kernel_rfl
theorem zu24 : zeroT Tryd.prog 5 = some (.int .u8 0) := by kernel_rfl
theorem ag25 : isAggT Tryd.prog 25 = false := by kernel_rfl
theorem sz25 : szT Tryd.prog 25 = some 1 := by kernel_rfl
theorem kn25 : knownT Tryd.prog 25 = true := by kernel_rfl
theorem zt25 : zeroT Tryd.prog 25 = some (.nilFunc) := by kernel_rfl
theorem ag26 : isAggT Tryd.prog 26 = false := by kernel_rfl
theorem sz26 : szT Tryd.prog 26 = some 1 := by kernel_rfl
theorem kn26 : knownT Tryd.prog 26 = true := by kernel_rfl
theorem zt26 : zeroT Tryd.prog 26 = some (.nilFunc) := by kernel_rfl
theorem ag27 : isAggT Tryd.prog 27 = false := by kernel_rfl
theorem sz27 : szT Tryd.prog 27 = some 1 := by kernel_rfl
theorem kn27 : knownT Tryd.prog 27 = true := by kernel_rfl
theorem zt27 : zeroT Tryd.prog 27 = some (.nilFunc) := by kernel_rfl
theorem ag28 : isAggT Tryd.prog 28 = false := by kernel_rfl
theorem sz28 : szT Tryd.prog 28 = some 1 := by kernel_rfl
theorem kn28 : knownT Tryd.prog 28 = true := by kernel_rfl
theorem zt28 : zeroT Tryd.prog 28 = some (.int .i64 0) := by kernel_rfl
theorem ag29 : isAggT Tryd.prog 29 = false := by kernel_rfl
theorem sz29 : szT Tryd.prog 29 = some 1 := by kernel_rfl
theorem kn29 : knownT Tryd.prog 29 = true := by kernel_rfl
theorem ag30 : isAggT Tryd.prog 30 = false := by kernel_rfl
theorem sz30 : szT Tryd.prog 30 = some 1 := by kernel_rfl
theorem kn30 : knownT Tryd.prog 30 = true := by kernel_rfl
theorem zt30 : zeroT Tryd.prog 30 = some (.nilFunc) := by kernel_rfl
theorem ag31 : isAggT Tryd.prog 31 = false := by kernel_rfl
theorem sz31 : szT Tryd.prog 31 = some 1 := by kernel_rfl
theorem kn31 : knownT Tryd.prog 31 = true := by kernel_rfl
theorem zt31 : zeroT Tryd.prog 31 = some (.nilFunc) := by kernel_rfl
theorem ag32 : isAggT Tryd.prog 32 = false := by kernel_rfl
theorem sz32 : szT Tryd.prog 32 = some 1 := by kernel_rfl
theorem kn32 : knownT Tryd.prog 32 = true := by kernel_rfl
theorem zt32 : zeroT Tryd.prog 32 = some (.nilFunc) := by kernel_rfl
theorem ag33 : isAggT Tryd.prog 33 = false := by kernel_rfl
theorem sz33 : szT Tryd.prog 33 = some 1 := by kernel_rfl
theorem kn33 : knownT Tryd.prog 33 = true := by kernel_rfl
theorem zt33 : zeroT Tryd.prog 33 = some (.nilFunc) := by kernel_rfl
theorem ag34 : isAggT Tryd.prog 34 = false := by kernel_rfl
theorem sz34 : szT Tryd.prog 34 = some 1 := by kernel_rfl
theorem kn34 : knownT Tryd.prog 34 = true := by kernel_rfl
theorem zt34 : zeroT Tryd.prog 34 = some (.nilFunc) := by kernel_rfl
theorem ag35 : isAggT Tryd.prog 35 = false := by kernel_rfl
theorem sz35 : szT Tryd.prog 35 = some 1 := by kernel_rfl
theorem kn35 : knownT Tryd.prog 35 = true := by kernel_rfl
theorem ag36 : isAggT Tryd.prog 36 = false := by kernel_rfl
theorem sz36 : szT Tryd.prog 36 = some 1 := by kernel_rfl
theorem kn36 : knownT Tryd.prog 36 = true := by kernel_rfl
theorem zt36 : zeroT Tryd.prog 36 = some (.nilFunc) := by kernel_rfl
theorem ag37 : isAggT Tryd.prog 37 = false := by kernel_rfl
theorem sz37 : szT Tryd.prog 37 = some 1 := by kernel_rfl
theorem kn37 : knownT Tryd.prog 37 = true := by kernel_rfl
theorem zt37 : zeroT Tryd.prog 37 = some (.nilFunc) := by kernel_rfl
theorem ag38 : isAggT Tryd.prog 38 = false := by kernel_rfl
theorem sz38 : szT Tryd.prog 38 = some 1 := by kernel_rfl
theorem kn38 : knownT Tryd.prog 38 = true := by kernel_rfl
theorem zt38 : zeroT Tryd.prog 38 = some (.nilFunc) := by kernel_rfl
theorem ag39 : isAggT Tryd.prog 39 = false := by kernel_rfl
theorem sz39 : szT Tryd.prog 39 = some 1 := by kernel_rfl
theorem kn39 : knownT Tryd.prog 39 = true := by kernel_rfl
theorem zt39 : zeroT Tryd.prog 39 = some (.int .u64 0) := by kernel_rfl
theorem ag40 : isAggT Tryd.prog 40 = false := by kernel_rfl
theorem sz40 : szT Tryd.prog 40 = some 1 := by kernel_rfl
theorem kn40 : knownT Tryd.prog 40 = true := by kernel_rfl
theorem zt40 : zeroT Tryd.prog 40 = some (.nilFunc) := by kernel_rfl
theorem ag41 : isAggT Tryd.prog 41 = false := by kernel_rfl
theorem sz41 : szT Tryd.prog 41 = some 1 := by kernel_rfl
theorem kn41 : knownT Tryd.prog 41 = true := by kernel_rfl
theorem zt41 : zeroT Tryd.prog 41 = some (.nilFunc) := by kernel_rfl
theorem ag42 : isAggT Tryd.prog 42 = false := by kernel_rfl
theorem sz42 : szT Tryd.prog 42 = some 1 := by kernel_rfl
theorem kn42 : knownT Tryd.prog 42 = true := by kernel_rfl
theorem zt42 : zeroT Tryd.prog 42 = some (.nilFunc) := by kernel_rfl
theorem ag43 : isAggT Tryd.prog 43 = false := by kernel_rfl
theorem sz43 : szT Tryd.prog 43 = some 1 := by kernel_rfl
theorem kn43 : knownT Tryd.prog 43 = true := by kernel_rfl
theorem zt43 : zeroT Tryd.prog 43 = some (.nilFunc) := by kernel_rfl
theorem ag44 : isAggT Tryd.prog 44 = false := by kernel_rfl
theorem sz44 : szT Tryd.prog 44 = some 1 := by kernel_rfl
theorem kn44 : knownT Tryd.prog 44 = true := by kernel_rfl
theorem zt44 : zeroT Tryd.prog 44 = some (.int .u64 0) := by kernel_rfl
theorem ag45 : isAggT Tryd.prog 45 = false := by kernel_rfl
theorem sz45 : szT Tryd.prog 45 = some 1 := by kernel_rfl
theorem kn45 : knownT Tryd.prog 45 = true := by kernel_rfl
theorem zt45 : zeroT Tryd.prog 45 = some (.nilFunc) := by kernel_rfl
theorem ag46 : isAggT Tryd.prog 46 = false := by kernel_rfl
theorem sz46 : szT Tryd.prog 46 = some 1 := by kernel_rfl
theorem kn46 : knownT Tryd.prog 46 = true := by kernel_rfl
theorem zt46 : zeroT Tryd.prog 46 = some (.nilFunc) := by kernel_rfl
theorem ag47 : isAggT Tryd.prog 47 = false := by kernel_rfl
theorem sz47 : szT Tryd.prog 47 = some 1 := by kernel_rfl
theorem kn47 : knownT Tryd.prog 47 = true := by kernel_rfl
theorem zt47 : zeroT Tryd.prog 47 = some (.nilFunc) := by kernel_rfl
theorem ag48 : isAggT Tryd.prog 48 = false := by kernel_rfl
theorem sz48 : szT Tryd.prog 48 = some 1 := by kernel_rfl
theorem kn48 : knownT Tryd.prog 48 = true := by kernel_rfl
theorem zt48 : zeroT Tryd.prog 48 = some (.nilFunc) := by kernel_rfl
theorem ag49 : isAggT Tryd.prog 49 = false := by kernel_rfl
theorem sz49 : szT Tryd.prog 49 = some 1 := by kernel_rfl
theorem kn49 : knownT Tryd.prog 49 = true := by kernel_rfl
theorem zt49 : zeroT Tryd.prog 49 = some (.nilFunc) := by kernel_rfl
theorem ag50 : isAggT Tryd.prog 50 = false := by kernel_rfl
theorem sz50 : szT Tryd.prog 50 = some 1 := by kernel_rfl
theorem kn50 : knownT Tryd.prog 50 = true := by kernel_rfl
theorem zt50 : zeroT Tryd.prog 50 = some (.slice none 0 0) := by kernel_rfl
theorem el50 : elemT Tryd.prog 50 = some 9 := by kernel_rfl
theorem if50 : infoT Tryd.prog 9 = some (1, 16) := by kernel_rfl
theorem tk50 : takesT Tryd.prog 50 = true := by kernel_rfl
theorem zu50 : zeroT Tryd.prog 9 = some (.string .empty) := by kernel_rfl
theorem ag51 : isAggT Tryd.prog 51 = false := by kernel_rfl
theorem sz51 : szT Tryd.prog 51 = some 1 := by kernel_rfl
theorem kn51 : knownT Tryd.prog 51 = true := by kernel_rfl
theorem zt51 : zeroT Tryd.prog 51 = some (.nilFunc) := by kernel_rfl
theorem ag52 : isAggT Tryd.prog 52 = false := by kernel_rfl
theorem sz52 : szT Tryd.prog 52 = some 1 := by kernel_rfl
theorem kn52 : knownT Tryd.prog 52 = true := by kernel_rfl
theorem ag53 : isAggT Tryd.prog 53 = false := by kernel_rfl
theorem sz53 : szT Tryd.prog 53 = some 1 := by kernel_rfl
theorem kn53 : knownT Tryd.prog 53 = true := by kernel_rfl
theorem zt53 : zeroT Tryd.prog 53 = some (.nilFunc) := by kernel_rfl
theorem ag54 : isAggT Tryd.prog 54 = false := by kernel_rfl
theorem sz54 : szT Tryd.prog 54 = some 1 := by kernel_rfl
theorem kn54 : knownT Tryd.prog 54 = true := by kernel_rfl
theorem ag55 : isAggT Tryd.prog 55 = false := by kernel_rfl
theorem sz55 : szT Tryd.prog 55 = some 1 := by kernel_rfl
theorem kn55 : knownT Tryd.prog 55 = true := by kernel_rfl
theorem zt55 : zeroT Tryd.prog 55 = some (.nilFunc) := by kernel_rfl
theorem ag56 : isAggT Tryd.prog 56 = false := by kernel_rfl
theorem sz56 : szT Tryd.prog 56 = some 1 := by kernel_rfl
theorem kn56 : knownT Tryd.prog 56 = true := by kernel_rfl
theorem zt56 : zeroT Tryd.prog 56 = some (.nilFunc) := by kernel_rfl
theorem ag57 : isAggT Tryd.prog 57 = false := by kernel_rfl
theorem sz57 : szT Tryd.prog 57 = some 1 := by kernel_rfl
theorem kn57 : knownT Tryd.prog 57 = true := by kernel_rfl
theorem zt57 : zeroT Tryd.prog 57 = some (.nilFunc) := by kernel_rfl
theorem ag58 : isAggT Tryd.prog 58 = false := by kernel_rfl
theorem sz58 : szT Tryd.prog 58 = some 1 := by kernel_rfl
theorem kn58 : knownT Tryd.prog 58 = true := by kernel_rfl
theorem ag59 : isAggT Tryd.prog 59 = false := by kernel_rfl
theorem sz59 : szT Tryd.prog 59 = some 1 := by kernel_rfl
theorem kn59 : knownT Tryd.prog 59 = true := by kernel_rfl
theorem zt59 : zeroT Tryd.prog 59 = some (.nilFunc) := by kernel_rfl
theorem ag60 : isAggT Tryd.prog 60 = false := by kernel_rfl
theorem sz60 : szT Tryd.prog 60 = some 1 := by kernel_rfl
theorem kn60 : knownT Tryd.prog 60 = true := by kernel_rfl
theorem zt60 : zeroT Tryd.prog 60 = some (.nilFunc) := by kernel_rfl
theorem ag61 : isAggT Tryd.prog 61 = false := by kernel_rfl
theorem sz61 : szT Tryd.prog 61 = some 1 := by kernel_rfl
theorem kn61 : knownT Tryd.prog 61 = true := by kernel_rfl
theorem zt61 : zeroT Tryd.prog 61 = some (.nilFunc) := by kernel_rfl
theorem ag62 : isAggT Tryd.prog 62 = false := by kernel_rfl
theorem sz62 : szT Tryd.prog 62 = some 1 := by kernel_rfl
theorem kn62 : knownT Tryd.prog 62 = true := by kernel_rfl
theorem zt62 : zeroT Tryd.prog 62 = some (.slice none 0 0) := by kernel_rfl
theorem el62 : elemT Tryd.prog 62 = some 3 := by kernel_rfl
theorem if62 : infoT Tryd.prog 3 = some (1, 8) := by kernel_rfl
theorem tk62 : takesT Tryd.prog 62 = true := by kernel_rfl
theorem zu62 : zeroT Tryd.prog 3 = some (.int .i64 0) := by kernel_rfl
theorem ag63 : isAggT Tryd.prog 63 = false := by kernel_rfl
theorem sz63 : szT Tryd.prog 63 = some 1 := by kernel_rfl
theorem kn63 : knownT Tryd.prog 63 = true := by kernel_rfl
theorem zt63 : zeroT Tryd.prog 63 = some (.nilFunc) := by kernel_rfl
theorem ag64 : isAggT Tryd.prog 64 = false := by kernel_rfl
theorem sz64 : szT Tryd.prog 64 = some 1 := by kernel_rfl
theorem kn64 : knownT Tryd.prog 64 = true := by kernel_rfl
theorem zt64 : zeroT Tryd.prog 64 = some (.nilFunc) := by kernel_rfl
theorem ag65 : isAggT Tryd.prog 65 = false := by kernel_rfl
theorem sz65 : szT Tryd.prog 65 = some 1 := by kernel_rfl
theorem kn65 : knownT Tryd.prog 65 = true := by kernel_rfl
theorem zt65 : zeroT Tryd.prog 65 = some (.nilFunc) := by kernel_rfl
theorem ag66 : isAggT Tryd.prog 66 = false := by kernel_rfl
theorem sz66 : szT Tryd.prog 66 = some 1 := by kernel_rfl
theorem kn66 : knownT Tryd.prog 66 = true := by kernel_rfl
theorem zt66 : zeroT Tryd.prog 66 = some (.slice none 0 0) := by kernel_rfl
theorem el66 : elemT Tryd.prog 66 = some 23 := by kernel_rfl
theorem if66 : infoT Tryd.prog 23 = some (3, 32) := by kernel_rfl
theorem tk66 : takesT Tryd.prog 66 = true := by kernel_rfl
theorem zu66 : zeroT Tryd.prog 23 = some (.agg #[.int .i64 0, .int .i64 0, .string .empty]) := by kernel_rfl
theorem ag67 : isAggT Tryd.prog 67 = false := by kernel_rfl
theorem sz67 : szT Tryd.prog 67 = some 1 := by kernel_rfl
theorem kn67 : knownT Tryd.prog 67 = true := by kernel_rfl
theorem zt67 : zeroT Tryd.prog 67 = some (.nilFunc) := by kernel_rfl
theorem ag68 : isAggT Tryd.prog 68 = false := by kernel_rfl
theorem sz68 : szT Tryd.prog 68 = some 1 := by kernel_rfl
theorem kn68 : knownT Tryd.prog 68 = true := by kernel_rfl
theorem ag69 : isAggT Tryd.prog 69 = false := by kernel_rfl
theorem sz69 : szT Tryd.prog 69 = some 1 := by kernel_rfl
theorem kn69 : knownT Tryd.prog 69 = true := by kernel_rfl
theorem zt69 : zeroT Tryd.prog 69 = some (.nilFunc) := by kernel_rfl
theorem ag70 : isAggT Tryd.prog 70 = false := by kernel_rfl
theorem sz70 : szT Tryd.prog 70 = some 1 := by kernel_rfl
theorem kn70 : knownT Tryd.prog 70 = true := by kernel_rfl
theorem zt70 : zeroT Tryd.prog 70 = some (.nilFunc) := by kernel_rfl
theorem ag71 : isAggT Tryd.prog 71 = true := by kernel_rfl
theorem sz71 : szT Tryd.prog 71 = some 24 := by kernel_rfl
theorem zt71 : zeroT Tryd.prog 71 = some (.agg #[.int .u8 0, .int .u8 0, .int .u8 0, .int .u8 0, .int .u8 0, .int .u8 0, .int .u8 0, .int .u8 0, .int .u8 0, .int .u8 0, .int .u8 0, .int .u8 0, .int .u8 0, .int .u8 0, .int .u8 0, .int .u8 0, .int .u8 0, .int .u8 0, .int .u8 0, .int .u8 0, .int .u8 0, .int .u8 0, .int .u8 0, .int .u8 0]) := by kernel_rfl
theorem ag72 : isAggT Tryd.prog 72 = false := by kernel_rfl
theorem sz72 : szT Tryd.prog 72 = some 1 := by kernel_rfl
theorem kn72 : knownT Tryd.prog 72 = true := by kernel_rfl
theorem zt72 : zeroT Tryd.prog 72 = some (.nilFunc) := by kernel_rfl
theorem ag73 : isAggT Tryd.prog 73 = false := by kernel_rfl
theorem sz73 : szT Tryd.prog 73 = some 1 := by kernel_rfl
theorem kn73 : knownT Tryd.prog 73 = true := by kernel_rfl
theorem zt73 : zeroT Tryd.prog 73 = some (.nilFunc) := by kernel_rfl
theorem ag74 : isAggT Tryd.prog 74 = false := by kernel_rfl
theorem sz74 : szT Tryd.prog 74 = some 1 := by kernel_rfl
theorem kn74 : knownT Tryd.prog 74 = true := by kernel_rfl
theorem ag75 : isAggT Tryd.prog 75 = false := by kernel_rfl
theorem sz75 : szT Tryd.prog 75 = some 1 := by kernel_rfl
theorem kn75 : knownT Tryd.prog 75 = true := by kernel_rfl
theorem zt75 : zeroT Tryd.prog 75 = some (.nilFunc) := by kernel_rfl
theorem ag76 : isAggT Tryd.prog 76 = false := by kernel_rfl
theorem sz76 : szT Tryd.prog 76 = some 1 := by kernel_rfl
theorem kn76 : knownT Tryd.prog 76 = true := by kernel_rfl
theorem zt76 : zeroT Tryd.prog 76 = some (.nilFunc) := by kernel_rfl
theorem ag77 : isAggT Tryd.prog 77 = false := by kernel_rfl
theorem sz77 : szT Tryd.prog 77 = some 1 := by kernel_rfl
theorem kn77 : knownT Tryd.prog 77 = true := by kernel_rfl
theorem zt77 : zeroT Tryd.prog 77 = some (.nilFunc) := by kernel_rfl
theorem ag78 : isAggT Tryd.prog 78 = true := by kernel_rfl
theorem sz78 : szT Tryd.prog 78 = some 20 := by kernel_rfl
theorem zt78 : zeroT Tryd.prog 78 = some (.agg #[.int .u64 0, .int .u64 0, .int .u64 0, .int .u64 0, .int .u64 0, .int .u64 0, .int .u64 0, .int .u64 0, .int .u64 0, .int .u64 0, .int .u64 0, .int .u64 0, .int .u64 0, .int .u64 0, .int .u64 0, .int .u64 0, .int .u64 0, .int .u64 0, .int .u64 0, .int .u64 0]) := by kernel_rfl
theorem ag79 : isAggT Tryd.prog 79 = false := by kernel_rfl
theorem sz79 : szT Tryd.prog 79 = some 1 := by kernel_rfl
theorem kn79 : knownT Tryd.prog 79 = true := by kernel_rfl
theorem zt79 : zeroT Tryd.prog 79 = some (.int .u32 0) := by kernel_rfl
theorem ag80 : isAggT Tryd.prog 80 = true := by kernel_rfl
theorem sz80 : szT Tryd.prog 80 = some 65 := by kernel_rfl
theorem zt80 : zeroT Tryd.prog 80 = some (.agg #[.int .u8 0, .int .u8 0, .int .u8 0, .int .u8 0, .int .u8 0, .int .u8 0, .int .u8 0, .int .u8 0, .int .u8 0, .int .u8 0, .int .u8 0, .int .u8 0, .int .u8 0, .int .u8 0, .int .u8 0, .int .u8 0, .int .u8 0, .int .u8 0, .int .u8 0, .int .u8 0, .int .u8 0, .int .u8 0, .int .u8 0, .int .u8 0, .int .u8 0, .int .u8 0, .int .u8 0, .int .u8 0, .int .u8 0, .int .u8 0, .int .u8 0, .int .u8 0, .int .u8 0, .int .u8 0, .int .u8 0, .int .u8 0, .int .u8 0, .int .u8 0, .int .u8 0, .int .u8 0, .int .u8 0, .int .u8 0, .int .u8 0, .int .u8 0, .int .u8 0, .int .u8 0, .int .u8 0, .int .u8 0, .int .u8 0, .int .u8 0, .int .u8 0, .int .u8 0, .int .u8 0, .int .u8 0, .int .u8 0, .int .u8 0, .int .u8 0, .int .u8 0, .int .u8 0, .int .u8 0, .int .u8 0, .int .u8 0, .int .u8 0, .int .u8 0, .int .u8 0]) := by kernel_rfl
theorem ag81 : isAggT Tryd.prog 81 = false := by kernel_rfl
theorem sz81 : szT Tryd.prog 81 = some 1 := by kernel_rfl
theorem kn81 : knownT Tryd.prog 81 = true := by kernel_rfl
theorem zt81 : zeroT Tryd.prog 81 = some (.nilFunc) := by kernel_rfl
theorem ag82 : isAggT Tryd.prog 82 = false := by kernel_rfl
theorem sz82 : szT Tryd.prog 82 = some 1 := by kernel_rfl
theorem kn82 : knownT Tryd.prog 82 = true := by kernel_rfl
theorem zt82 : zeroT Tryd.prog 82 = some (.nilFunc) := by kernel_rfl
theorem ag83 : isAggT Tryd.prog 83 = true := by kernel_rfl
theorem sz83 : szT Tryd.prog 83 = some 32 := by kernel_rfl
theorem zt83 : zeroT Tryd.prog 83 = some (.agg #[.int .u8 0, .int .u8 0, .int .u8 0, .int .u8 0, .int .u8 0, .int .u8 0, .int .u8 0, .int .u8 0, .int .u8 0, .int .u8 0, .int .u8 0, .int .u8 0, .int .u8 0, .int .u8 0, .int .u8 0, .int .u8 0, .int .u8 0, .int .u8 0, .int .u8 0, .int .u8 0, .int .u8 0, .int .u8 0, .int .u8 0, .int .u8 0, .int .u8 0, .int .u8 0, .int .u8 0, .int .u8 0, .int .u8 0, .int .u8 0, .int .u8 0, .int .u8 0]) := by kernel_rfl
theorem ag84 : isAggT Tryd.prog 84 = true := by kernel_rfl
theorem sz84 : szT Tryd.prog 84 = some 64 := by kernel_rfl
theorem zt84 : zeroT Tryd.prog 84 = some (.agg #[.int .u8 0, .int .u8 0, .int .u8 0, .int .u8 0, .int .u8 0, .int .u8 0, .int .u8 0, .int .u8 0, .int .u8 0, .int .u8 0, .int .u8 0, .int .u8 0, .int .u8 0, .int .u8 0, .int .u8 0, .int .u8 0, .int .u8 0, .int .u8 0, .int .u8 0, .int .u8 0, .int .u8 0, .int .u8 0, .int .u8 0, .int .u8 0, .int .u8 0, .int .u8 0, .int .u8 0, .int .u8 0, .int .u8 0, .int .u8 0, .int .u8 0, .int .u8 0, .int .u8 0, .int .u8 0, .int .u8 0, .int .u8 0, .int .u8 0, .int .u8 0, .int .u8 0, .int .u8 0, .int .u8 0, .int .u8 0, .int .u8 0, .int .u8 0, .int .u8 0, .int .u8 0, .int .u8 0, .int .u8 0, .int .u8 0, .int .u8 0, .int .u8 0, .int .u8 0, .int .u8 0, .int .u8 0, .int .u8 0, .int .u8 0, .int .u8 0, .int .u8 0, .int .u8 0, .int .u8 0, .int .u8 0, .int .u8 0, .int .u8 0, .int .u8 0]) := by kernel_rfl
theorem ag85 : isAggT Tryd.prog 85 = false := by kernel_rfl
theorem sz85 : szT Tryd.prog 85 = some 1 := by kernel_rfl
theorem kn85 : knownT Tryd.prog 85 = true := by kernel_rfl
theorem zt85 : zeroT Tryd.prog 85 = some (.nilFunc) := by kernel_rfl
theorem ag86 : isAggT Tryd.prog 86 = true := by kernel_rfl
theorem sz86 : szT Tryd.prog 86 = some 4 := by kernel_rfl
theorem zt86 : zeroT Tryd.prog 86 = some (.agg #[.pointer none, .pointer none, .pointer none, .string .empty]) := by kernel_rfl
theorem sd86 : sized Tryd.prog 86 = true := by kernel_rfl
theorem pl86_0 : place Tryd.prog 86 0 = some (0, 1) := by kernel_rfl
theorem ft86_0 : ftype Tryd.prog 86 0 = some 17 := by kernel_rfl
theorem pl86_1 : place Tryd.prog 86 1 = some (1, 1) := by kernel_rfl
theorem ft86_1 : ftype Tryd.prog 86 1 = some 17 := by kernel_rfl
theorem pl86_2 : place Tryd.prog 86 2 = some (2, 1) := by kernel_rfl
theorem ft86_2 : ftype Tryd.prog 86 2 = some 17 := by kernel_rfl
theorem pl86_3 : place Tryd.prog 86 3 = some (3, 1) := by kernel_rfl
theorem ft86_3 : ftype Tryd.prog 86 3 = some 9 := by kernel_rfl
theorem ag87 : isAggT Tryd.prog 87 = true := by kernel_rfl
theorem sz87 : szT Tryd.prog 87 = some 4 := by kernel_rfl
theorem zt87 : zeroT Tryd.prog 87 = some (.agg #[.pointer none, .pointer none, .pointer none, .string .empty]) := by kernel_rfl
theorem sd87 : sized Tryd.prog 87 = true := by kernel_rfl
theorem pl87_0 : place Tryd.prog 87 0 = some (0, 1) := by kernel_rfl
theorem ft87_0 : ftype Tryd.prog 87 0 = some 17 := by kernel_rfl
theorem pl87_1 : place Tryd.prog 87 1 = some (1, 1) := by kernel_rfl
theorem ft87_1 : ftype Tryd.prog 87 1 = some 17 := by kernel_rfl
theorem pl87_2 : place Tryd.prog 87 2 = some (2, 1) := by kernel_rfl
theorem ft87_2 : ftype Tryd.prog 87 2 = some 17 := by kernel_rfl
theorem pl87_3 : place Tryd.prog 87 3 = some (3, 1) := by kernel_rfl
theorem ft87_3 : ftype Tryd.prog 87 3 = some 9 := by kernel_rfl
theorem ag88 : isAggT Tryd.prog 88 = true := by kernel_rfl
theorem sz88 : szT Tryd.prog 88 = some 0 := by kernel_rfl
theorem zt88 : zeroT Tryd.prog 88 = some (.agg #[]) := by kernel_rfl
theorem ag89 : isAggT Tryd.prog 89 = true := by kernel_rfl
theorem sz89 : szT Tryd.prog 89 = some 0 := by kernel_rfl
theorem zt89 : zeroT Tryd.prog 89 = some (.agg #[]) := by kernel_rfl
theorem sd89 : sized Tryd.prog 89 = true := by kernel_rfl
theorem pl89_0 : place Tryd.prog 89 0 = some (0, 0) := by kernel_rfl
theorem ft89_0 : ftype Tryd.prog 89 0 = some 88 := by kernel_rfl
theorem ag90 : isAggT Tryd.prog 90 = true := by kernel_rfl
theorem sz90 : szT Tryd.prog 90 = some 0 := by kernel_rfl
theorem zt90 : zeroT Tryd.prog 90 = some (.agg #[]) := by kernel_rfl
theorem sd90 : sized Tryd.prog 90 = true := by kernel_rfl
theorem pl90_0 : place Tryd.prog 90 0 = some (0, 0) := by kernel_rfl
theorem ft90_0 : ftype Tryd.prog 90 0 = some 88 := by kernel_rfl
theorem ag91 : isAggT Tryd.prog 91 = false := by kernel_rfl
theorem sz91 : szT Tryd.prog 91 = some 1 := by kernel_rfl
theorem kn91 : knownT Tryd.prog 91 = true := by kernel_rfl
theorem zt91 : zeroT Tryd.prog 91 = some (.nilFunc) := by kernel_rfl
theorem ag92 : isAggT Tryd.prog 92 = false := by kernel_rfl
theorem sz92 : szT Tryd.prog 92 = some 1 := by kernel_rfl
theorem kn92 : knownT Tryd.prog 92 = true := by kernel_rfl
theorem zt92 : zeroT Tryd.prog 92 = some (.int .u8 0) := by kernel_rfl
theorem ag93 : isAggT Tryd.prog 93 = false := by kernel_rfl
theorem sz93 : szT Tryd.prog 93 = some 1 := by kernel_rfl
theorem kn93 : knownT Tryd.prog 93 = true := by kernel_rfl
theorem zt93 : zeroT Tryd.prog 93 = some (.int .u8 0) := by kernel_rfl
theorem ag94 : isAggT Tryd.prog 94 = false := by kernel_rfl
theorem sz94 : szT Tryd.prog 94 = some 1 := by kernel_rfl
theorem kn94 : knownT Tryd.prog 94 = true := by kernel_rfl
theorem zt94 : zeroT Tryd.prog 94 = some (.nilFunc) := by kernel_rfl
theorem ag95 : isAggT Tryd.prog 95 = false := by kernel_rfl
theorem sz95 : szT Tryd.prog 95 = some 1 := by kernel_rfl
theorem kn95 : knownT Tryd.prog 95 = true := by kernel_rfl
theorem zt95 : zeroT Tryd.prog 95 = some (.pointer none) := by kernel_rfl
theorem ag96 : isAggT Tryd.prog 96 = false := by kernel_rfl
theorem sz96 : szT Tryd.prog 96 = some 1 := by kernel_rfl
theorem kn96 : knownT Tryd.prog 96 = true := by kernel_rfl
theorem zt96 : zeroT Tryd.prog 96 = some (.int .i32 0) := by kernel_rfl
theorem ag97 : isAggT Tryd.prog 97 = false := by kernel_rfl
theorem sz97 : szT Tryd.prog 97 = some 1 := by kernel_rfl
theorem kn97 : knownT Tryd.prog 97 = true := by kernel_rfl
theorem zt97 : zeroT Tryd.prog 97 = some (.int .i32 0) := by kernel_rfl
theorem ag98 : isAggT Tryd.prog 98 = true := by kernel_rfl
theorem sz98 : szT Tryd.prog 98 = some 11 := by kernel_rfl
theorem zt98 : zeroT Tryd.prog 98 = some (.agg #[.int .u64 0, .int .u64 0, .int .u32 0, .int .u8 0, .int .u8 0, .int .u8 0, .int .u8 0, .nilFunc, .pointer none, .int .i32 0, .int .i32 0]) := by kernel_rfl
theorem sd98 : sized Tryd.prog 98 = true := by kernel_rfl
theorem pl98_0 : place Tryd.prog 98 0 = some (0, 1) := by kernel_rfl
theorem ft98_0 : ftype Tryd.prog 98 0 = some 12 := by kernel_rfl
theorem pl98_1 : place Tryd.prog 98 1 = some (1, 1) := by kernel_rfl
theorem ft98_1 : ftype Tryd.prog 98 1 = some 12 := by kernel_rfl
theorem pl98_2 : place Tryd.prog 98 2 = some (2, 1) := by kernel_rfl
theorem ft98_2 : ftype Tryd.prog 98 2 = some 79 := by kernel_rfl
theorem pl98_3 : place Tryd.prog 98 3 = some (3, 1) := by kernel_rfl
theorem ft98_3 : ftype Tryd.prog 98 3 = some 92 := by kernel_rfl
theorem pl98_4 : place Tryd.prog 98 4 = some (4, 1) := by kernel_rfl
theorem ft98_4 : ftype Tryd.prog 98 4 = some 5 := by kernel_rfl
theorem pl98_5 : place Tryd.prog 98 5 = some (5, 1) := by kernel_rfl
theorem ft98_5 : ftype Tryd.prog 98 5 = some 5 := by kernel_rfl
theorem pl98_6 : place Tryd.prog 98 6 = some (6, 1) := by kernel_rfl
theorem ft98_6 : ftype Tryd.prog 98 6 = some 93 := by kernel_rfl
theorem pl98_7 : place Tryd.prog 98 7 = some (7, 1) := by kernel_rfl
theorem ft98_7 : ftype Tryd.prog 98 7 = some 94 := by kernel_rfl
theorem pl98_8 : place Tryd.prog 98 8 = some (8, 1) := by kernel_rfl
theorem ft98_8 : ftype Tryd.prog 98 8 = some 95 := by kernel_rfl
theorem pl98_9 : place Tryd.prog 98 9 = some (9, 1) := by kernel_rfl
theorem ft98_9 : ftype Tryd.prog 98 9 = some 96 := by kernel_rfl
theorem pl98_10 : place Tryd.prog 98 10 = some (10, 1) := by kernel_rfl
theorem ft98_10 : ftype Tryd.prog 98 10 = some 97 := by kernel_rfl
theorem ag99 : isAggT Tryd.prog 99 = true := by kernel_rfl
theorem sz99 : szT Tryd.prog 99 = some 11 := by kernel_rfl
theorem zt99 : zeroT Tryd.prog 99 = some (.agg #[.int .u64 0, .int .u64 0, .int .u32 0, .int .u8 0, .int .u8 0, .int .u8 0, .int .u8 0, .nilFunc, .pointer none, .int .i32 0, .int .i32 0]) := by kernel_rfl
theorem sd99 : sized Tryd.prog 99 = true := by kernel_rfl
theorem pl99_0 : place Tryd.prog 99 0 = some (0, 1) := by kernel_rfl
theorem ft99_0 : ftype Tryd.prog 99 0 = some 12 := by kernel_rfl
theorem pl99_1 : place Tryd.prog 99 1 = some (1, 1) := by kernel_rfl
theorem ft99_1 : ftype Tryd.prog 99 1 = some 12 := by kernel_rfl
theorem pl99_2 : place Tryd.prog 99 2 = some (2, 1) := by kernel_rfl
theorem ft99_2 : ftype Tryd.prog 99 2 = some 79 := by kernel_rfl
theorem pl99_3 : place Tryd.prog 99 3 = some (3, 1) := by kernel_rfl
theorem ft99_3 : ftype Tryd.prog 99 3 = some 92 := by kernel_rfl
theorem pl99_4 : place Tryd.prog 99 4 = some (4, 1) := by kernel_rfl
theorem ft99_4 : ftype Tryd.prog 99 4 = some 5 := by kernel_rfl
theorem pl99_5 : place Tryd.prog 99 5 = some (5, 1) := by kernel_rfl
theorem ft99_5 : ftype Tryd.prog 99 5 = some 5 := by kernel_rfl
theorem pl99_6 : place Tryd.prog 99 6 = some (6, 1) := by kernel_rfl
theorem ft99_6 : ftype Tryd.prog 99 6 = some 93 := by kernel_rfl
theorem pl99_7 : place Tryd.prog 99 7 = some (7, 1) := by kernel_rfl
theorem ft99_7 : ftype Tryd.prog 99 7 = some 94 := by kernel_rfl
theorem pl99_8 : place Tryd.prog 99 8 = some (8, 1) := by kernel_rfl
theorem ft99_8 : ftype Tryd.prog 99 8 = some 95 := by kernel_rfl
theorem pl99_9 : place Tryd.prog 99 9 = some (9, 1) := by kernel_rfl
theorem ft99_9 : ftype Tryd.prog 99 9 = some 96 := by kernel_rfl
theorem pl99_10 : place Tryd.prog 99 10 = some (10, 1) := by kernel_rfl
theorem ft99_10 : ftype Tryd.prog 99 10 = some 97 := by kernel_rfl
theorem ag100 : isAggT Tryd.prog 100 = false := by kernel_rfl
theorem sz100 : szT Tryd.prog 100 = some 1 := by kernel_rfl
theorem kn100 : knownT Tryd.prog 100 = true := by kernel_rfl
theorem zt100 : zeroT Tryd.prog 100 = some (.pointer none) := by kernel_rfl
theorem ld0 (H : Hp) (a : Addr) : aload Tryd.prog 0 (.pointer (some a)) H = cellAt H a := aload_cell ag0 kn0 a
theorem ap0 (cs : Array Value) (off : Nat) : apart Tryd.prog 0 cs off = cs[off]? := apart_cell ag0 kn0 cs off
theorem so0 (H : Hp) (b off : Nat) (x : Value) : astore Tryd.prog 0 (.pointer (some ⟨b, off, none⟩)) x H = match H.get b with | .cells true e c => (if x.cells.size = 1 ∧ isTup x = false ∧ off + 1 ≤ c.length then some (H.put b (.cells true e (setAll c off x.cells.toList))) else none) | _ => none := astore_sz sz0 b off x
theorem ld1 (H : Hp) (a : Addr) : aload Tryd.prog 1 (.pointer (some a)) H = cellAt H a := aload_cell ag1 kn1 a
theorem ap1 (cs : Array Value) (off : Nat) : apart Tryd.prog 1 cs off = cs[off]? := apart_cell ag1 kn1 cs off
theorem so1 (H : Hp) (b off : Nat) (x : Value) : astore Tryd.prog 1 (.pointer (some ⟨b, off, none⟩)) x H = match H.get b with | .cells true e c => (if x.cells.size = 1 ∧ isTup x = false ∧ off + 1 ≤ c.length then some (H.put b (.cells true e (setAll c off x.cells.toList))) else none) | _ => none := astore_sz sz1 b off x
theorem al1 (X : Outer) (ops : Array Oper) (dd : Option Tmp) (ty : TypeId) (pos : String) (af : Array Edge) (e : Env) (H : Hp) (K : Value → Hp → Prop) : Step Tryd.prog X ops ⟨dd, .alloc 1, ty, pos, af, none⟩ e H K = K (.pointer (some ⟨H.next, 0, none⟩)) (H.push (.cells true 1 [.nilFunc])) := Step_alloc zt1 rfl
theorem ld2 (H : Hp) (a : Addr) : aload Tryd.prog 2 (.pointer (some a)) H = cellAt H a := aload_cell ag2 kn2 a
theorem ap2 (cs : Array Value) (off : Nat) : apart Tryd.prog 2 cs off = cs[off]? := apart_cell ag2 kn2 cs off
theorem so2 (H : Hp) (b off : Nat) (x : Value) : astore Tryd.prog 2 (.pointer (some ⟨b, off, none⟩)) x H = match H.get b with | .cells true e c => (if x.cells.size = 1 ∧ isTup x = false ∧ off + 1 ≤ c.length then some (H.put b (.cells true e (setAll c off x.cells.toList))) else none) | _ => none := astore_sz sz2 b off x
theorem al2 (X : Outer) (ops : Array Oper) (dd : Option Tmp) (ty : TypeId) (pos : String) (af : Array Edge) (e : Env) (H : Hp) (K : Value → Hp → Prop) : Step Tryd.prog X ops ⟨dd, .alloc 2, ty, pos, af, none⟩ e H K = K (.pointer (some ⟨H.next, 0, none⟩)) (H.push (.cells true 2 [.int .i64 0])) := Step_alloc zt2 rfl
theorem ld3 (H : Hp) (a : Addr) : aload Tryd.prog 3 (.pointer (some a)) H = cellAt H a := aload_cell ag3 kn3 a
theorem ap3 (cs : Array Value) (off : Nat) : apart Tryd.prog 3 cs off = cs[off]? := apart_cell ag3 kn3 cs off
theorem so3 (H : Hp) (b off : Nat) (x : Value) : astore Tryd.prog 3 (.pointer (some ⟨b, off, none⟩)) x H = match H.get b with | .cells true e c => (if x.cells.size = 1 ∧ isTup x = false ∧ off + 1 ≤ c.length then some (H.put b (.cells true e (setAll c off x.cells.toList))) else none) | _ => none := astore_sz sz3 b off x
theorem al3 (X : Outer) (ops : Array Oper) (dd : Option Tmp) (ty : TypeId) (pos : String) (af : Array Edge) (e : Env) (H : Hp) (K : Value → Hp → Prop) : Step Tryd.prog X ops ⟨dd, .alloc 3, ty, pos, af, none⟩ e H K = K (.pointer (some ⟨H.next, 0, none⟩)) (H.push (.cells true 3 [.int .i64 0])) := Step_alloc zt3 rfl
theorem ld4 (H : Hp) (a : Addr) : aload Tryd.prog 4 (.pointer (some a)) H = cellAt H a := aload_cell ag4 kn4 a
theorem ap4 (cs : Array Value) (off : Nat) : apart Tryd.prog 4 cs off = cs[off]? := apart_cell ag4 kn4 cs off
theorem so4 (H : Hp) (b off : Nat) (x : Value) : astore Tryd.prog 4 (.pointer (some ⟨b, off, none⟩)) x H = match H.get b with | .cells true e c => (if x.cells.size = 1 ∧ isTup x = false ∧ off + 1 ≤ c.length then some (H.put b (.cells true e (setAll c off x.cells.toList))) else none) | _ => none := astore_sz sz4 b off x
theorem al4 (X : Outer) (ops : Array Oper) (dd : Option Tmp) (ty : TypeId) (pos : String) (af : Array Edge) (e : Env) (H : Hp) (K : Value → Hp → Prop) : Step Tryd.prog X ops ⟨dd, .alloc 4, ty, pos, af, none⟩ e H K = K (.pointer (some ⟨H.next, 0, none⟩)) (H.push (.cells true 4 [.bool false])) := Step_alloc zt4 rfl
theorem ld5 (H : Hp) (a : Addr) : aload Tryd.prog 5 (.pointer (some a)) H = cellAt H a := aload_cell ag5 kn5 a
theorem ap5 (cs : Array Value) (off : Nat) : apart Tryd.prog 5 cs off = cs[off]? := apart_cell ag5 kn5 cs off
theorem so5 (H : Hp) (b off : Nat) (x : Value) : astore Tryd.prog 5 (.pointer (some ⟨b, off, none⟩)) x H = match H.get b with | .cells true e c => (if x.cells.size = 1 ∧ isTup x = false ∧ off + 1 ≤ c.length then some (H.put b (.cells true e (setAll c off x.cells.toList))) else none) | _ => none := astore_sz sz5 b off x
theorem al5 (X : Outer) (ops : Array Oper) (dd : Option Tmp) (ty : TypeId) (pos : String) (af : Array Edge) (e : Env) (H : Hp) (K : Value → Hp → Prop) : Step Tryd.prog X ops ⟨dd, .alloc 5, ty, pos, af, none⟩ e H K = K (.pointer (some ⟨H.next, 0, none⟩)) (H.push (.cells true 5 [.int .u8 0])) := Step_alloc zt5 rfl
theorem ld6 (H : Hp) (a : Addr) : aload Tryd.prog 6 (.pointer (some a)) H = cellAt H a := aload_cell ag6 kn6 a
theorem ap6 (cs : Array Value) (off : Nat) : apart Tryd.prog 6 cs off = cs[off]? := apart_cell ag6 kn6 cs off
theorem so6 (H : Hp) (b off : Nat) (x : Value) : astore Tryd.prog 6 (.pointer (some ⟨b, off, none⟩)) x H = match H.get b with | .cells true e c => (if x.cells.size = 1 ∧ isTup x = false ∧ off + 1 ≤ c.length then some (H.put b (.cells true e (setAll c off x.cells.toList))) else none) | _ => none := astore_sz sz6 b off x
theorem al6 (X : Outer) (ops : Array Oper) (dd : Option Tmp) (ty : TypeId) (pos : String) (af : Array Edge) (e : Env) (H : Hp) (K : Value → Hp → Prop) : Step Tryd.prog X ops ⟨dd, .alloc 6, ty, pos, af, none⟩ e H K = K (.pointer (some ⟨H.next, 0, none⟩)) (H.push (.cells true 6 [.int .u8 0])) := Step_alloc zt6 rfl
theorem ld7 (H : Hp) (a : Addr) : aload Tryd.prog 7 (.pointer (some a)) H = (cellsAt H a 4).map fun c => .agg c.toArray := aload_agg ag7 sz7 a
theorem ap7 (cs : Array Value) (off : Nat) : apart Tryd.prog 7 cs off = if off + 4 ≤ cs.size then some (.agg (cs.extract off (off + 4))) else none := apart_agg ag7 sz7 cs off
theorem so7 (H : Hp) (b off : Nat) (x : Value) : astore Tryd.prog 7 (.pointer (some ⟨b, off, none⟩)) x H = match H.get b with | .cells true e c => (if x.cells.size = 4 ∧ isTup x = false ∧ off + 4 ≤ c.length then some (H.put b (.cells true e (setAll c off x.cells.toList))) else none) | _ => none := astore_sz sz7 b off x
theorem al7 (X : Outer) (ops : Array Oper) (dd : Option Tmp) (ty : TypeId) (pos : String) (af : Array Edge) (e : Env) (H : Hp) (K : Value → Hp → Prop) : Step Tryd.prog X ops ⟨dd, .alloc 7, ty, pos, af, none⟩ e H K = K (.pointer (some ⟨H.next, 0, none⟩)) (H.push (.cells true 7 [.int .i64 0, .int .i64 0, .bool false, .int .u8 0])) := Step_alloc zt7 rfl
theorem fa7_0 (ρ : Operand → Value) (H : Hp) (x : Operand) : lop Tryd.prog ρ H (.fieldAddr 7 x 0) = match ρ x with | .pointer (some a) => (if a.spot = none then some (.pointer (some ⟨a.block, a.off + 0, none⟩)) else none) | _ => none := lop_fieldAddr x 0 0 1 pl7_0 (by decide)
theorem fd7_0 (ρ : Operand → Value) (H : Hp) (x : Operand) : lop Tryd.prog ρ H (.field 7 x 0) = match ρ x with | .agg cs => apart Tryd.prog 2 cs 0 | _ => none := lop_field x 0 0 1 2 pl7_0 ft7_0
theorem fa7_1 (ρ : Operand → Value) (H : Hp) (x : Operand) : lop Tryd.prog ρ H (.fieldAddr 7 x 1) = match ρ x with | .pointer (some a) => (if a.spot = none then some (.pointer (some ⟨a.block, a.off + 1, none⟩)) else none) | _ => none := lop_fieldAddr x 1 1 1 pl7_1 (by decide)
theorem fd7_1 (ρ : Operand → Value) (H : Hp) (x : Operand) : lop Tryd.prog ρ H (.field 7 x 1) = match ρ x with | .agg cs => apart Tryd.prog 3 cs 1 | _ => none := lop_field x 1 1 1 3 pl7_1 ft7_1
theorem fa7_2 (ρ : Operand → Value) (H : Hp) (x : Operand) : lop Tryd.prog ρ H (.fieldAddr 7 x 2) = match ρ x with | .pointer (some a) => (if a.spot = none then some (.pointer (some ⟨a.block, a.off + 2, none⟩)) else none) | _ => none := lop_fieldAddr x 2 2 1 pl7_2 (by decide)
theorem fd7_2 (ρ : Operand → Value) (H : Hp) (x : Operand) : lop Tryd.prog ρ H (.field 7 x 2) = match ρ x with | .agg cs => apart Tryd.prog 4 cs 2 | _ => none := lop_field x 2 2 1 4 pl7_2 ft7_2
theorem fa7_3 (ρ : Operand → Value) (H : Hp) (x : Operand) : lop Tryd.prog ρ H (.fieldAddr 7 x 3) = match ρ x with | .pointer (some a) => (if a.spot = none then some (.pointer (some ⟨a.block, a.off + 3, none⟩)) else none) | _ => none := lop_fieldAddr x 3 3 1 pl7_3 (by decide)
theorem fd7_3 (ρ : Operand → Value) (H : Hp) (x : Operand) : lop Tryd.prog ρ H (.field 7 x 3) = match ρ x with | .agg cs => apart Tryd.prog 6 cs 3 | _ => none := lop_field x 3 3 1 6 pl7_3 ft7_3
theorem bd7 (ρ : Operand → Value) (H : Hp) (parts : Array (Nat × Operand)) : lop Tryd.prog ρ H (.build 7 parts) = if parts.toList.all (fun p => !isTup (ρ p.2)) then (afill (place Tryd.prog 7) (Value.cells (.agg #[.int .i64 0, .int .i64 0, .bool false, .int .u8 0])).toList (parts.toList.map fun p => (p.1, ρ p.2))).map fun cs => .agg cs.toArray else none := lop_build parts _ zt7 sd7 rfl
theorem ld8 (H : Hp) (a : Addr) : aload Tryd.prog 8 (.pointer (some a)) H = (cellsAt H a 4).map fun c => .agg c.toArray := aload_agg ag8 sz8 a
theorem ap8 (cs : Array Value) (off : Nat) : apart Tryd.prog 8 cs off = if off + 4 ≤ cs.size then some (.agg (cs.extract off (off + 4))) else none := apart_agg ag8 sz8 cs off
theorem so8 (H : Hp) (b off : Nat) (x : Value) : astore Tryd.prog 8 (.pointer (some ⟨b, off, none⟩)) x H = match H.get b with | .cells true e c => (if x.cells.size = 4 ∧ isTup x = false ∧ off + 4 ≤ c.length then some (H.put b (.cells true e (setAll c off x.cells.toList))) else none) | _ => none := astore_sz sz8 b off x
theorem al8 (X : Outer) (ops : Array Oper) (dd : Option Tmp) (ty : TypeId) (pos : String) (af : Array Edge) (e : Env) (H : Hp) (K : Value → Hp → Prop) : Step Tryd.prog X ops ⟨dd, .alloc 8, ty, pos, af, none⟩ e H K = K (.pointer (some ⟨H.next, 0, none⟩)) (H.push (.cells true 8 [.int .i64 0, .int .i64 0, .bool false, .int .u8 0])) := Step_alloc zt8 rfl
theorem fa8_0 (ρ : Operand → Value) (H : Hp) (x : Operand) : lop Tryd.prog ρ H (.fieldAddr 8 x 0) = match ρ x with | .pointer (some a) => (if a.spot = none then some (.pointer (some ⟨a.block, a.off + 0, none⟩)) else none) | _ => none := lop_fieldAddr x 0 0 1 pl8_0 (by decide)
theorem fd8_0 (ρ : Operand → Value) (H : Hp) (x : Operand) : lop Tryd.prog ρ H (.field 8 x 0) = match ρ x with | .agg cs => apart Tryd.prog 2 cs 0 | _ => none := lop_field x 0 0 1 2 pl8_0 ft8_0
theorem fa8_1 (ρ : Operand → Value) (H : Hp) (x : Operand) : lop Tryd.prog ρ H (.fieldAddr 8 x 1) = match ρ x with | .pointer (some a) => (if a.spot = none then some (.pointer (some ⟨a.block, a.off + 1, none⟩)) else none) | _ => none := lop_fieldAddr x 1 1 1 pl8_1 (by decide)
theorem fd8_1 (ρ : Operand → Value) (H : Hp) (x : Operand) : lop Tryd.prog ρ H (.field 8 x 1) = match ρ x with | .agg cs => apart Tryd.prog 3 cs 1 | _ => none := lop_field x 1 1 1 3 pl8_1 ft8_1
theorem fa8_2 (ρ : Operand → Value) (H : Hp) (x : Operand) : lop Tryd.prog ρ H (.fieldAddr 8 x 2) = match ρ x with | .pointer (some a) => (if a.spot = none then some (.pointer (some ⟨a.block, a.off + 2, none⟩)) else none) | _ => none := lop_fieldAddr x 2 2 1 pl8_2 (by decide)
theorem fd8_2 (ρ : Operand → Value) (H : Hp) (x : Operand) : lop Tryd.prog ρ H (.field 8 x 2) = match ρ x with | .agg cs => apart Tryd.prog 4 cs 2 | _ => none := lop_field x 2 2 1 4 pl8_2 ft8_2
theorem fa8_3 (ρ : Operand → Value) (H : Hp) (x : Operand) : lop Tryd.prog ρ H (.fieldAddr 8 x 3) = match ρ x with | .pointer (some a) => (if a.spot = none then some (.pointer (some ⟨a.block, a.off + 3, none⟩)) else none) | _ => none := lop_fieldAddr x 3 3 1 pl8_3 (by decide)
theorem fd8_3 (ρ : Operand → Value) (H : Hp) (x : Operand) : lop Tryd.prog ρ H (.field 8 x 3) = match ρ x with | .agg cs => apart Tryd.prog 6 cs 3 | _ => none := lop_field x 3 3 1 6 pl8_3 ft8_3
theorem bd8 (ρ : Operand → Value) (H : Hp) (parts : Array (Nat × Operand)) : lop Tryd.prog ρ H (.build 8 parts) = if parts.toList.all (fun p => !isTup (ρ p.2)) then (afill (place Tryd.prog 8) (Value.cells (.agg #[.int .i64 0, .int .i64 0, .bool false, .int .u8 0])).toList (parts.toList.map fun p => (p.1, ρ p.2))).map fun cs => .agg cs.toArray else none := lop_build parts _ zt8 sd8 rfl
theorem ld9 (H : Hp) (a : Addr) : aload Tryd.prog 9 (.pointer (some a)) H = cellAt H a := aload_cell ag9 kn9 a
theorem ap9 (cs : Array Value) (off : Nat) : apart Tryd.prog 9 cs off = cs[off]? := apart_cell ag9 kn9 cs off
theorem so9 (H : Hp) (b off : Nat) (x : Value) : astore Tryd.prog 9 (.pointer (some ⟨b, off, none⟩)) x H = match H.get b with | .cells true e c => (if x.cells.size = 1 ∧ isTup x = false ∧ off + 1 ≤ c.length then some (H.put b (.cells true e (setAll c off x.cells.toList))) else none) | _ => none := astore_sz sz9 b off x
theorem al9 (X : Outer) (ops : Array Oper) (dd : Option Tmp) (ty : TypeId) (pos : String) (af : Array Edge) (e : Env) (H : Hp) (K : Value → Hp → Prop) : Step Tryd.prog X ops ⟨dd, .alloc 9, ty, pos, af, none⟩ e H K = K (.pointer (some ⟨H.next, 0, none⟩)) (H.push (.cells true 9 [.string .empty])) := Step_alloc zt9 rfl
theorem ln9 (H : Hp) (s : ByteArray) : alen Tryd.prog 9 (.string s) H = some (.int .i64 s.size) := alen_str Tryd.underlying9 s
theorem sl9 (s : ByteArray) (lo hi : Option Value) : aslice Tryd.prog 9 (.string s) lo hi none = (abound hi s.size).bind fun h => (abound lo 0).bind fun l => if 0 ≤ l ∧ l ≤ h ∧ h ≤ s.size then some (.string (s.extract l.toNat h.toNat)) else none := aslice_str Tryd.underlying9 s lo hi
theorem ix9 (s : ByteArray) (k : IntKind) (j : Int) : aindex Tryd.prog 9 (.string s) (.int k j) = if 0 ≤ j then (s[j.toNat]?).map fun b => .int .u8 b.toNat else none := aindex_str Tryd.underlying9 s k j
theorem ld10 (H : Hp) (a : Addr) : aload Tryd.prog 10 (.pointer (some a)) H = cellAt H a := aload_cell ag10 kn10 a
theorem ap10 (cs : Array Value) (off : Nat) : apart Tryd.prog 10 cs off = cs[off]? := apart_cell ag10 kn10 cs off
theorem so10 (H : Hp) (b off : Nat) (x : Value) : astore Tryd.prog 10 (.pointer (some ⟨b, off, none⟩)) x H = match H.get b with | .cells true e c => (if x.cells.size = 1 ∧ isTup x = false ∧ off + 1 ≤ c.length then some (H.put b (.cells true e (setAll c off x.cells.toList))) else none) | _ => none := astore_sz sz10 b off x
theorem al10 (X : Outer) (ops : Array Oper) (dd : Option Tmp) (ty : TypeId) (pos : String) (af : Array Edge) (e : Env) (H : Hp) (K : Value → Hp → Prop) : Step Tryd.prog X ops ⟨dd, .alloc 10, ty, pos, af, none⟩ e H K = K (.pointer (some ⟨H.next, 0, none⟩)) (H.push (.cells true 10 [.string .empty])) := Step_alloc zt10 rfl
theorem ln10 (H : Hp) (s : ByteArray) : alen Tryd.prog 10 (.string s) H = some (.int .i64 s.size) := alen_str Tryd.underlying10 s
theorem sl10 (s : ByteArray) (lo hi : Option Value) : aslice Tryd.prog 10 (.string s) lo hi none = (abound hi s.size).bind fun h => (abound lo 0).bind fun l => if 0 ≤ l ∧ l ≤ h ∧ h ≤ s.size then some (.string (s.extract l.toNat h.toNat)) else none := aslice_str Tryd.underlying10 s lo hi
theorem ix10 (s : ByteArray) (k : IntKind) (j : Int) : aindex Tryd.prog 10 (.string s) (.int k j) = if 0 ≤ j then (s[j.toNat]?).map fun b => .int .u8 b.toNat else none := aindex_str Tryd.underlying10 s k j
theorem ld11 (H : Hp) (a : Addr) : aload Tryd.prog 11 (.pointer (some a)) H = cellAt H a := aload_cell ag11 kn11 a
theorem ap11 (cs : Array Value) (off : Nat) : apart Tryd.prog 11 cs off = cs[off]? := apart_cell ag11 kn11 cs off
theorem so11 (H : Hp) (b off : Nat) (x : Value) : astore Tryd.prog 11 (.pointer (some ⟨b, off, none⟩)) x H = match H.get b with | .cells true e c => (if x.cells.size = 1 ∧ isTup x = false ∧ off + 1 ≤ c.length then some (H.put b (.cells true e (setAll c off x.cells.toList))) else none) | _ => none := astore_sz sz11 b off x
theorem al11 (X : Outer) (ops : Array Oper) (dd : Option Tmp) (ty : TypeId) (pos : String) (af : Array Edge) (e : Env) (H : Hp) (K : Value → Hp → Prop) : Step Tryd.prog X ops ⟨dd, .alloc 11, ty, pos, af, none⟩ e H K = K (.pointer (some ⟨H.next, 0, none⟩)) (H.push (.cells true 11 [.string .empty])) := Step_alloc zt11 rfl
theorem ln11 (H : Hp) (s : ByteArray) : alen Tryd.prog 11 (.string s) H = some (.int .i64 s.size) := alen_str Tryd.underlying11 s
theorem sl11 (s : ByteArray) (lo hi : Option Value) : aslice Tryd.prog 11 (.string s) lo hi none = (abound hi s.size).bind fun h => (abound lo 0).bind fun l => if 0 ≤ l ∧ l ≤ h ∧ h ≤ s.size then some (.string (s.extract l.toNat h.toNat)) else none := aslice_str Tryd.underlying11 s lo hi
theorem ix11 (s : ByteArray) (k : IntKind) (j : Int) : aindex Tryd.prog 11 (.string s) (.int k j) = if 0 ≤ j then (s[j.toNat]?).map fun b => .int .u8 b.toNat else none := aindex_str Tryd.underlying11 s k j
theorem ld12 (H : Hp) (a : Addr) : aload Tryd.prog 12 (.pointer (some a)) H = cellAt H a := aload_cell ag12 kn12 a
theorem ap12 (cs : Array Value) (off : Nat) : apart Tryd.prog 12 cs off = cs[off]? := apart_cell ag12 kn12 cs off
theorem so12 (H : Hp) (b off : Nat) (x : Value) : astore Tryd.prog 12 (.pointer (some ⟨b, off, none⟩)) x H = match H.get b with | .cells true e c => (if x.cells.size = 1 ∧ isTup x = false ∧ off + 1 ≤ c.length then some (H.put b (.cells true e (setAll c off x.cells.toList))) else none) | _ => none := astore_sz sz12 b off x
theorem al12 (X : Outer) (ops : Array Oper) (dd : Option Tmp) (ty : TypeId) (pos : String) (af : Array Edge) (e : Env) (H : Hp) (K : Value → Hp → Prop) : Step Tryd.prog X ops ⟨dd, .alloc 12, ty, pos, af, none⟩ e H K = K (.pointer (some ⟨H.next, 0, none⟩)) (H.push (.cells true 12 [.int .u64 0])) := Step_alloc zt12 rfl
theorem ld13 (H : Hp) (a : Addr) : aload Tryd.prog 13 (.pointer (some a)) H = (cellsAt H a 2).map fun c => .agg c.toArray := aload_agg ag13 sz13 a
theorem ap13 (cs : Array Value) (off : Nat) : apart Tryd.prog 13 cs off = if off + 2 ≤ cs.size then some (.agg (cs.extract off (off + 2))) else none := apart_agg ag13 sz13 cs off
theorem so13 (H : Hp) (b off : Nat) (x : Value) : astore Tryd.prog 13 (.pointer (some ⟨b, off, none⟩)) x H = match H.get b with | .cells true e c => (if x.cells.size = 2 ∧ isTup x = false ∧ off + 2 ≤ c.length then some (H.put b (.cells true e (setAll c off x.cells.toList))) else none) | _ => none := astore_sz sz13 b off x
theorem al13 (X : Outer) (ops : Array Oper) (dd : Option Tmp) (ty : TypeId) (pos : String) (af : Array Edge) (e : Env) (H : Hp) (K : Value → Hp → Prop) : Step Tryd.prog X ops ⟨dd, .alloc 13, ty, pos, af, none⟩ e H K = K (.pointer (some ⟨H.next, 0, none⟩)) (H.push (.cells true 13 [.string .empty, .int .u64 0])) := Step_alloc zt13 rfl
theorem fa13_0 (ρ : Operand → Value) (H : Hp) (x : Operand) : lop Tryd.prog ρ H (.fieldAddr 13 x 0) = match ρ x with | .pointer (some a) => (if a.spot = none then some (.pointer (some ⟨a.block, a.off + 0, none⟩)) else none) | _ => none := lop_fieldAddr x 0 0 1 pl13_0 (by decide)
theorem fd13_0 (ρ : Operand → Value) (H : Hp) (x : Operand) : lop Tryd.prog ρ H (.field 13 x 0) = match ρ x with | .agg cs => apart Tryd.prog 9 cs 0 | _ => none := lop_field x 0 0 1 9 pl13_0 ft13_0
theorem fa13_1 (ρ : Operand → Value) (H : Hp) (x : Operand) : lop Tryd.prog ρ H (.fieldAddr 13 x 1) = match ρ x with | .pointer (some a) => (if a.spot = none then some (.pointer (some ⟨a.block, a.off + 1, none⟩)) else none) | _ => none := lop_fieldAddr x 1 1 1 pl13_1 (by decide)
theorem fd13_1 (ρ : Operand → Value) (H : Hp) (x : Operand) : lop Tryd.prog ρ H (.field 13 x 1) = match ρ x with | .agg cs => apart Tryd.prog 12 cs 1 | _ => none := lop_field x 1 1 1 12 pl13_1 ft13_1
theorem bd13 (ρ : Operand → Value) (H : Hp) (parts : Array (Nat × Operand)) : lop Tryd.prog ρ H (.build 13 parts) = if parts.toList.all (fun p => !isTup (ρ p.2)) then (afill (place Tryd.prog 13) (Value.cells (.agg #[.string .empty, .int .u64 0])).toList (parts.toList.map fun p => (p.1, ρ p.2))).map fun cs => .agg cs.toArray else none := lop_build parts _ zt13 sd13 rfl
theorem ld14 (H : Hp) (a : Addr) : aload Tryd.prog 14 (.pointer (some a)) H = (cellsAt H a 2).map fun c => .agg c.toArray := aload_agg ag14 sz14 a
theorem ap14 (cs : Array Value) (off : Nat) : apart Tryd.prog 14 cs off = if off + 2 ≤ cs.size then some (.agg (cs.extract off (off + 2))) else none := apart_agg ag14 sz14 cs off
theorem so14 (H : Hp) (b off : Nat) (x : Value) : astore Tryd.prog 14 (.pointer (some ⟨b, off, none⟩)) x H = match H.get b with | .cells true e c => (if x.cells.size = 2 ∧ isTup x = false ∧ off + 2 ≤ c.length then some (H.put b (.cells true e (setAll c off x.cells.toList))) else none) | _ => none := astore_sz sz14 b off x
theorem al14 (X : Outer) (ops : Array Oper) (dd : Option Tmp) (ty : TypeId) (pos : String) (af : Array Edge) (e : Env) (H : Hp) (K : Value → Hp → Prop) : Step Tryd.prog X ops ⟨dd, .alloc 14, ty, pos, af, none⟩ e H K = K (.pointer (some ⟨H.next, 0, none⟩)) (H.push (.cells true 14 [.string .empty, .int .u64 0])) := Step_alloc zt14 rfl
theorem fa14_0 (ρ : Operand → Value) (H : Hp) (x : Operand) : lop Tryd.prog ρ H (.fieldAddr 14 x 0) = match ρ x with | .pointer (some a) => (if a.spot = none then some (.pointer (some ⟨a.block, a.off + 0, none⟩)) else none) | _ => none := lop_fieldAddr x 0 0 1 pl14_0 (by decide)
theorem fd14_0 (ρ : Operand → Value) (H : Hp) (x : Operand) : lop Tryd.prog ρ H (.field 14 x 0) = match ρ x with | .agg cs => apart Tryd.prog 9 cs 0 | _ => none := lop_field x 0 0 1 9 pl14_0 ft14_0
theorem fa14_1 (ρ : Operand → Value) (H : Hp) (x : Operand) : lop Tryd.prog ρ H (.fieldAddr 14 x 1) = match ρ x with | .pointer (some a) => (if a.spot = none then some (.pointer (some ⟨a.block, a.off + 1, none⟩)) else none) | _ => none := lop_fieldAddr x 1 1 1 pl14_1 (by decide)
theorem fd14_1 (ρ : Operand → Value) (H : Hp) (x : Operand) : lop Tryd.prog ρ H (.field 14 x 1) = match ρ x with | .agg cs => apart Tryd.prog 12 cs 1 | _ => none := lop_field x 1 1 1 12 pl14_1 ft14_1
theorem bd14 (ρ : Operand → Value) (H : Hp) (parts : Array (Nat × Operand)) : lop Tryd.prog ρ H (.build 14 parts) = if parts.toList.all (fun p => !isTup (ρ p.2)) then (afill (place Tryd.prog 14) (Value.cells (.agg #[.string .empty, .int .u64 0])).toList (parts.toList.map fun p => (p.1, ρ p.2))).map fun cs => .agg cs.toArray else none := lop_build parts _ zt14 sd14 rfl
theorem ld15 (H : Hp) (a : Addr) : aload Tryd.prog 15 (.pointer (some a)) H = cellAt H a := aload_cell ag15 kn15 a
theorem ap15 (cs : Array Value) (off : Nat) : apart Tryd.prog 15 cs off = cs[off]? := apart_cell ag15 kn15 cs off
theorem so15 (H : Hp) (b off : Nat) (x : Value) : astore Tryd.prog 15 (.pointer (some ⟨b, off, none⟩)) x H = match H.get b with | .cells true e c => (if x.cells.size = 1 ∧ isTup x = false ∧ off + 1 ≤ c.length then some (H.put b (.cells true e (setAll c off x.cells.toList))) else none) | _ => none := astore_sz sz15 b off x
theorem al15 (X : Outer) (ops : Array Oper) (dd : Option Tmp) (ty : TypeId) (pos : String) (af : Array Edge) (e : Env) (H : Hp) (K : Value → Hp → Prop) : Step Tryd.prog X ops ⟨dd, .alloc 15, ty, pos, af, none⟩ e H K = K (.pointer (some ⟨H.next, 0, none⟩)) (H.push (.cells true 15 [.pointer none])) := Step_alloc zt15 rfl
theorem ld16 (H : Hp) (a : Addr) : aload Tryd.prog 16 (.pointer (some a)) H = cellAt H a := aload_cell ag16 kn16 a
theorem ap16 (cs : Array Value) (off : Nat) : apart Tryd.prog 16 cs off = cs[off]? := apart_cell ag16 kn16 cs off
theorem so16 (H : Hp) (b off : Nat) (x : Value) : astore Tryd.prog 16 (.pointer (some ⟨b, off, none⟩)) x H = match H.get b with | .cells true e c => (if x.cells.size = 1 ∧ isTup x = false ∧ off + 1 ≤ c.length then some (H.put b (.cells true e (setAll c off x.cells.toList))) else none) | _ => none := astore_sz sz16 b off x
theorem al16 (X : Outer) (ops : Array Oper) (dd : Option Tmp) (ty : TypeId) (pos : String) (af : Array Edge) (e : Env) (H : Hp) (K : Value → Hp → Prop) : Step Tryd.prog X ops ⟨dd, .alloc 16, ty, pos, af, none⟩ e H K = K (.pointer (some ⟨H.next, 0, none⟩)) (H.push (.cells true 16 [.pointer none])) := Step_alloc zt16 rfl
theorem ld17 (H : Hp) (a : Addr) : aload Tryd.prog 17 (.pointer (some a)) H = cellAt H a := aload_cell ag17 kn17 a
theorem ap17 (cs : Array Value) (off : Nat) : apart Tryd.prog 17 cs off = cs[off]? := apart_cell ag17 kn17 cs off
theorem so17 (H : Hp) (b off : Nat) (x : Value) : astore Tryd.prog 17 (.pointer (some ⟨b, off, none⟩)) x H = match H.get b with | .cells true e c => (if x.cells.size = 1 ∧ isTup x = false ∧ off + 1 ≤ c.length then some (H.put b (.cells true e (setAll c off x.cells.toList))) else none) | _ => none := astore_sz sz17 b off x
theorem al17 (X : Outer) (ops : Array Oper) (dd : Option Tmp) (ty : TypeId) (pos : String) (af : Array Edge) (e : Env) (H : Hp) (K : Value → Hp → Prop) : Step Tryd.prog X ops ⟨dd, .alloc 17, ty, pos, af, none⟩ e H K = K (.pointer (some ⟨H.next, 0, none⟩)) (H.push (.cells true 17 [.pointer none])) := Step_alloc zt17 rfl
theorem ld18 (H : Hp) (a : Addr) : aload Tryd.prog 18 (.pointer (some a)) H = (cellsAt H a 1).map fun c => .agg c.toArray := aload_agg ag18 sz18 a
theorem ap18 (cs : Array Value) (off : Nat) : apart Tryd.prog 18 cs off = if off + 1 ≤ cs.size then some (.agg (cs.extract off (off + 1))) else none := apart_agg ag18 sz18 cs off
theorem so18 (H : Hp) (b off : Nat) (x : Value) : astore Tryd.prog 18 (.pointer (some ⟨b, off, none⟩)) x H = match H.get b with | .cells true e c => (if x.cells.size = 1 ∧ isTup x = false ∧ off + 1 ≤ c.length then some (H.put b (.cells true e (setAll c off x.cells.toList))) else none) | _ => none := astore_sz sz18 b off x
theorem al18 (X : Outer) (ops : Array Oper) (dd : Option Tmp) (ty : TypeId) (pos : String) (af : Array Edge) (e : Env) (H : Hp) (K : Value → Hp → Prop) : Step Tryd.prog X ops ⟨dd, .alloc 18, ty, pos, af, none⟩ e H K = K (.pointer (some ⟨H.next, 0, none⟩)) (H.push (.cells true 18 [.pointer none])) := Step_alloc zt18 rfl
theorem fa18_0 (ρ : Operand → Value) (H : Hp) (x : Operand) : lop Tryd.prog ρ H (.fieldAddr 18 x 0) = match ρ x with | .pointer (some a) => (if a.spot = none then some (.pointer (some ⟨a.block, a.off + 0, none⟩)) else none) | _ => none := lop_fieldAddr x 0 0 1 pl18_0 (by decide)
theorem fd18_0 (ρ : Operand → Value) (H : Hp) (x : Operand) : lop Tryd.prog ρ H (.field 18 x 0) = match ρ x with | .agg cs => apart Tryd.prog 17 cs 0 | _ => none := lop_field x 0 0 1 17 pl18_0 ft18_0
theorem bd18 (ρ : Operand → Value) (H : Hp) (parts : Array (Nat × Operand)) : lop Tryd.prog ρ H (.build 18 parts) = if parts.toList.all (fun p => !isTup (ρ p.2)) then (afill (place Tryd.prog 18) (Value.cells (.agg #[.pointer none])).toList (parts.toList.map fun p => (p.1, ρ p.2))).map fun cs => .agg cs.toArray else none := lop_build parts _ zt18 sd18 rfl
theorem ld19 (H : Hp) (a : Addr) : aload Tryd.prog 19 (.pointer (some a)) H = (cellsAt H a 1).map fun c => .agg c.toArray := aload_agg ag19 sz19 a
theorem ap19 (cs : Array Value) (off : Nat) : apart Tryd.prog 19 cs off = if off + 1 ≤ cs.size then some (.agg (cs.extract off (off + 1))) else none := apart_agg ag19 sz19 cs off
theorem so19 (H : Hp) (b off : Nat) (x : Value) : astore Tryd.prog 19 (.pointer (some ⟨b, off, none⟩)) x H = match H.get b with | .cells true e c => (if x.cells.size = 1 ∧ isTup x = false ∧ off + 1 ≤ c.length then some (H.put b (.cells true e (setAll c off x.cells.toList))) else none) | _ => none := astore_sz sz19 b off x
theorem al19 (X : Outer) (ops : Array Oper) (dd : Option Tmp) (ty : TypeId) (pos : String) (af : Array Edge) (e : Env) (H : Hp) (K : Value → Hp → Prop) : Step Tryd.prog X ops ⟨dd, .alloc 19, ty, pos, af, none⟩ e H K = K (.pointer (some ⟨H.next, 0, none⟩)) (H.push (.cells true 19 [.pointer none])) := Step_alloc zt19 rfl
theorem fa19_0 (ρ : Operand → Value) (H : Hp) (x : Operand) : lop Tryd.prog ρ H (.fieldAddr 19 x 0) = match ρ x with | .pointer (some a) => (if a.spot = none then some (.pointer (some ⟨a.block, a.off + 0, none⟩)) else none) | _ => none := lop_fieldAddr x 0 0 1 pl19_0 (by decide)
theorem fd19_0 (ρ : Operand → Value) (H : Hp) (x : Operand) : lop Tryd.prog ρ H (.field 19 x 0) = match ρ x with | .agg cs => apart Tryd.prog 17 cs 0 | _ => none := lop_field x 0 0 1 17 pl19_0 ft19_0
theorem bd19 (ρ : Operand → Value) (H : Hp) (parts : Array (Nat × Operand)) : lop Tryd.prog ρ H (.build 19 parts) = if parts.toList.all (fun p => !isTup (ρ p.2)) then (afill (place Tryd.prog 19) (Value.cells (.agg #[.pointer none])).toList (parts.toList.map fun p => (p.1, ρ p.2))).map fun cs => .agg cs.toArray else none := lop_build parts _ zt19 sd19 rfl
theorem ld20 (H : Hp) (a : Addr) : aload Tryd.prog 20 (.pointer (some a)) H = cellAt H a := aload_cell ag20 kn20 a
theorem ap20 (cs : Array Value) (off : Nat) : apart Tryd.prog 20 cs off = cs[off]? := apart_cell ag20 kn20 cs off
theorem so20 (H : Hp) (b off : Nat) (x : Value) : astore Tryd.prog 20 (.pointer (some ⟨b, off, none⟩)) x H = match H.get b with | .cells true e c => (if x.cells.size = 1 ∧ isTup x = false ∧ off + 1 ≤ c.length then some (H.put b (.cells true e (setAll c off x.cells.toList))) else none) | _ => none := astore_sz sz20 b off x
theorem al20 (X : Outer) (ops : Array Oper) (dd : Option Tmp) (ty : TypeId) (pos : String) (af : Array Edge) (e : Env) (H : Hp) (K : Value → Hp → Prop) : Step Tryd.prog X ops ⟨dd, .alloc 20, ty, pos, af, none⟩ e H K = K (.pointer (some ⟨H.next, 0, none⟩)) (H.push (.cells true 20 [.nilIface])) := Step_alloc zt20 rfl
theorem ld21 (H : Hp) (a : Addr) : aload Tryd.prog 21 (.pointer (some a)) H = cellAt H a := aload_cell ag21 kn21 a
theorem ap21 (cs : Array Value) (off : Nat) : apart Tryd.prog 21 cs off = cs[off]? := apart_cell ag21 kn21 cs off
theorem so21 (H : Hp) (b off : Nat) (x : Value) : astore Tryd.prog 21 (.pointer (some ⟨b, off, none⟩)) x H = match H.get b with | .cells true e c => (if x.cells.size = 1 ∧ isTup x = false ∧ off + 1 ≤ c.length then some (H.put b (.cells true e (setAll c off x.cells.toList))) else none) | _ => none := astore_sz sz21 b off x
theorem al21 (X : Outer) (ops : Array Oper) (dd : Option Tmp) (ty : TypeId) (pos : String) (af : Array Edge) (e : Env) (H : Hp) (K : Value → Hp → Prop) : Step Tryd.prog X ops ⟨dd, .alloc 21, ty, pos, af, none⟩ e H K = K (.pointer (some ⟨H.next, 0, none⟩)) (H.push (.cells true 21 [.int .i32 0])) := Step_alloc zt21 rfl
theorem ld22 (H : Hp) (a : Addr) : aload Tryd.prog 22 (.pointer (some a)) H = (cellsAt H a 3).map fun c => .agg c.toArray := aload_agg ag22 sz22 a
theorem ap22 (cs : Array Value) (off : Nat) : apart Tryd.prog 22 cs off = if off + 3 ≤ cs.size then some (.agg (cs.extract off (off + 3))) else none := apart_agg ag22 sz22 cs off
theorem so22 (H : Hp) (b off : Nat) (x : Value) : astore Tryd.prog 22 (.pointer (some ⟨b, off, none⟩)) x H = match H.get b with | .cells true e c => (if x.cells.size = 3 ∧ isTup x = false ∧ off + 3 ≤ c.length then some (H.put b (.cells true e (setAll c off x.cells.toList))) else none) | _ => none := astore_sz sz22 b off x
theorem al22 (X : Outer) (ops : Array Oper) (dd : Option Tmp) (ty : TypeId) (pos : String) (af : Array Edge) (e : Env) (H : Hp) (K : Value → Hp → Prop) : Step Tryd.prog X ops ⟨dd, .alloc 22, ty, pos, af, none⟩ e H K = K (.pointer (some ⟨H.next, 0, none⟩)) (H.push (.cells true 22 [.int .i64 0, .int .i64 0, .string .empty])) := Step_alloc zt22 rfl
theorem fa22_0 (ρ : Operand → Value) (H : Hp) (x : Operand) : lop Tryd.prog ρ H (.fieldAddr 22 x 0) = match ρ x with | .pointer (some a) => (if a.spot = none then some (.pointer (some ⟨a.block, a.off + 0, none⟩)) else none) | _ => none := lop_fieldAddr x 0 0 1 pl22_0 (by decide)
theorem fd22_0 (ρ : Operand → Value) (H : Hp) (x : Operand) : lop Tryd.prog ρ H (.field 22 x 0) = match ρ x with | .agg cs => apart Tryd.prog 3 cs 0 | _ => none := lop_field x 0 0 1 3 pl22_0 ft22_0
theorem fa22_1 (ρ : Operand → Value) (H : Hp) (x : Operand) : lop Tryd.prog ρ H (.fieldAddr 22 x 1) = match ρ x with | .pointer (some a) => (if a.spot = none then some (.pointer (some ⟨a.block, a.off + 1, none⟩)) else none) | _ => none := lop_fieldAddr x 1 1 1 pl22_1 (by decide)
theorem fd22_1 (ρ : Operand → Value) (H : Hp) (x : Operand) : lop Tryd.prog ρ H (.field 22 x 1) = match ρ x with | .agg cs => apart Tryd.prog 3 cs 1 | _ => none := lop_field x 1 1 1 3 pl22_1 ft22_1
theorem fa22_2 (ρ : Operand → Value) (H : Hp) (x : Operand) : lop Tryd.prog ρ H (.fieldAddr 22 x 2) = match ρ x with | .pointer (some a) => (if a.spot = none then some (.pointer (some ⟨a.block, a.off + 2, none⟩)) else none) | _ => none := lop_fieldAddr x 2 2 1 pl22_2 (by decide)
theorem fd22_2 (ρ : Operand → Value) (H : Hp) (x : Operand) : lop Tryd.prog ρ H (.field 22 x 2) = match ρ x with | .agg cs => apart Tryd.prog 9 cs 2 | _ => none := lop_field x 2 2 1 9 pl22_2 ft22_2
theorem bd22 (ρ : Operand → Value) (H : Hp) (parts : Array (Nat × Operand)) : lop Tryd.prog ρ H (.build 22 parts) = if parts.toList.all (fun p => !isTup (ρ p.2)) then (afill (place Tryd.prog 22) (Value.cells (.agg #[.int .i64 0, .int .i64 0, .string .empty])).toList (parts.toList.map fun p => (p.1, ρ p.2))).map fun cs => .agg cs.toArray else none := lop_build parts _ zt22 sd22 rfl
theorem ld23 (H : Hp) (a : Addr) : aload Tryd.prog 23 (.pointer (some a)) H = (cellsAt H a 3).map fun c => .agg c.toArray := aload_agg ag23 sz23 a
theorem ap23 (cs : Array Value) (off : Nat) : apart Tryd.prog 23 cs off = if off + 3 ≤ cs.size then some (.agg (cs.extract off (off + 3))) else none := apart_agg ag23 sz23 cs off
theorem so23 (H : Hp) (b off : Nat) (x : Value) : astore Tryd.prog 23 (.pointer (some ⟨b, off, none⟩)) x H = match H.get b with | .cells true e c => (if x.cells.size = 3 ∧ isTup x = false ∧ off + 3 ≤ c.length then some (H.put b (.cells true e (setAll c off x.cells.toList))) else none) | _ => none := astore_sz sz23 b off x
theorem al23 (X : Outer) (ops : Array Oper) (dd : Option Tmp) (ty : TypeId) (pos : String) (af : Array Edge) (e : Env) (H : Hp) (K : Value → Hp → Prop) : Step Tryd.prog X ops ⟨dd, .alloc 23, ty, pos, af, none⟩ e H K = K (.pointer (some ⟨H.next, 0, none⟩)) (H.push (.cells true 23 [.int .i64 0, .int .i64 0, .string .empty])) := Step_alloc zt23 rfl
theorem fa23_0 (ρ : Operand → Value) (H : Hp) (x : Operand) : lop Tryd.prog ρ H (.fieldAddr 23 x 0) = match ρ x with | .pointer (some a) => (if a.spot = none then some (.pointer (some ⟨a.block, a.off + 0, none⟩)) else none) | _ => none := lop_fieldAddr x 0 0 1 pl23_0 (by decide)
theorem fd23_0 (ρ : Operand → Value) (H : Hp) (x : Operand) : lop Tryd.prog ρ H (.field 23 x 0) = match ρ x with | .agg cs => apart Tryd.prog 3 cs 0 | _ => none := lop_field x 0 0 1 3 pl23_0 ft23_0
theorem fa23_1 (ρ : Operand → Value) (H : Hp) (x : Operand) : lop Tryd.prog ρ H (.fieldAddr 23 x 1) = match ρ x with | .pointer (some a) => (if a.spot = none then some (.pointer (some ⟨a.block, a.off + 1, none⟩)) else none) | _ => none := lop_fieldAddr x 1 1 1 pl23_1 (by decide)
theorem fd23_1 (ρ : Operand → Value) (H : Hp) (x : Operand) : lop Tryd.prog ρ H (.field 23 x 1) = match ρ x with | .agg cs => apart Tryd.prog 3 cs 1 | _ => none := lop_field x 1 1 1 3 pl23_1 ft23_1
theorem fa23_2 (ρ : Operand → Value) (H : Hp) (x : Operand) : lop Tryd.prog ρ H (.fieldAddr 23 x 2) = match ρ x with | .pointer (some a) => (if a.spot = none then some (.pointer (some ⟨a.block, a.off + 2, none⟩)) else none) | _ => none := lop_fieldAddr x 2 2 1 pl23_2 (by decide)
theorem fd23_2 (ρ : Operand → Value) (H : Hp) (x : Operand) : lop Tryd.prog ρ H (.field 23 x 2) = match ρ x with | .agg cs => apart Tryd.prog 9 cs 2 | _ => none := lop_field x 2 2 1 9 pl23_2 ft23_2
theorem bd23 (ρ : Operand → Value) (H : Hp) (parts : Array (Nat × Operand)) : lop Tryd.prog ρ H (.build 23 parts) = if parts.toList.all (fun p => !isTup (ρ p.2)) then (afill (place Tryd.prog 23) (Value.cells (.agg #[.int .i64 0, .int .i64 0, .string .empty])).toList (parts.toList.map fun p => (p.1, ρ p.2))).map fun cs => .agg cs.toArray else none := lop_build parts _ zt23 sd23 rfl
theorem ld24 (H : Hp) (a : Addr) : aload Tryd.prog 24 (.pointer (some a)) H = cellAt H a := aload_cell ag24 kn24 a
theorem ap24 (cs : Array Value) (off : Nat) : apart Tryd.prog 24 cs off = cs[off]? := apart_cell ag24 kn24 cs off
theorem so24 (H : Hp) (b off : Nat) (x : Value) : astore Tryd.prog 24 (.pointer (some ⟨b, off, none⟩)) x H = match H.get b with | .cells true e c => (if x.cells.size = 1 ∧ isTup x = false ∧ off + 1 ≤ c.length then some (H.put b (.cells true e (setAll c off x.cells.toList))) else none) | _ => none := astore_sz sz24 b off x
theorem al24 (X : Outer) (ops : Array Oper) (dd : Option Tmp) (ty : TypeId) (pos : String) (af : Array Edge) (e : Env) (H : Hp) (K : Value → Hp → Prop) : Step Tryd.prog X ops ⟨dd, .alloc 24, ty, pos, af, none⟩ e H K = K (.pointer (some ⟨H.next, 0, none⟩)) (H.push (.cells true 24 [.slice none 0 0])) := Step_alloc zt24 rfl
theorem ix24 (b off n : Nat) (k : IntKind) (j : Int) : aindexAddr Tryd.prog 24 (.slice (some ⟨b, off, none⟩) n 1) (.int k j) = if 0 ≤ j ∧ j < n then some (.pointer (some ⟨b, off + j.toNat * 1, none⟩)) else none := aindexAddr_slice el24 sz5 b off n k j
theorem sl24 (b off n : Nat) (lo hi : Option Value) : aslice Tryd.prog 24 (.slice (some ⟨b, off, none⟩) n 1) lo hi none = (abound hi n).bind fun h => (abound lo 0).bind fun l => if 0 ≤ l ∧ l ≤ h ∧ h ≤ n then some (.slice (some ⟨b, off + l.toNat * 1, none⟩) (h - l).toNat 1) else none := aslice_slice el24 sz5 b off n lo hi
theorem sn24 (lo hi : Option Value) : aslice Tryd.prog 24 (.slice none 0 0) lo hi none = (abound hi 0).bind fun h => (abound lo 0).bind fun l => if 0 ≤ l ∧ l ≤ h ∧ h ≤ 0 then some (.slice none 0 0) else none := aslice_nil el24 sz5 lo hi
theorem gr24 (H : Hp) (s x : Value) : aappend Tryd.prog 24 24 s x H = (acells 1 x (alenOf x) H).bind fun new => agrow2 5 1 1 s (alenOf x) new H := aappend_eq el24 if24 tk24 s x
theorem bs24 (len : Nat) (parts : List (Nat × Value)) (hl : len * 1 ≤ 16777216) : abuild Tryd.prog 24 len parts = if parts.all (fun p => !isTup p.2) then (afill (fun i => some (i * 1, 1)) (List.replicate len (Value.cells (.int .u8 0)).toList).flatten parts).map fun cs => (1, 5, cs) else none := abuild_eq el24 if24 zu24 rfl len parts hl
theorem ln24 (H : Hp) (p : Option Addr) (n c : Nat) : alen Tryd.prog 24 (.slice p n c) H = some (.int .i64 n) := alen_slice el24 p n c
theorem ld25 (H : Hp) (a : Addr) : aload Tryd.prog 25 (.pointer (some a)) H = cellAt H a := aload_cell ag25 kn25 a
theorem ap25 (cs : Array Value) (off : Nat) : apart Tryd.prog 25 cs off = cs[off]? := apart_cell ag25 kn25 cs off
theorem so25 (H : Hp) (b off : Nat) (x : Value) : astore Tryd.prog 25 (.pointer (some ⟨b, off, none⟩)) x H = match H.get b with | .cells true e c => (if x.cells.size = 1 ∧ isTup x = false ∧ off + 1 ≤ c.length then some (H.put b (.cells true e (setAll c off x.cells.toList))) else none) | _ => none := astore_sz sz25 b off x
theorem al25 (X : Outer) (ops : Array Oper) (dd : Option Tmp) (ty : TypeId) (pos : String) (af : Array Edge) (e : Env) (H : Hp) (K : Value → Hp → Prop) : Step Tryd.prog X ops ⟨dd, .alloc 25, ty, pos, af, none⟩ e H K = K (.pointer (some ⟨H.next, 0, none⟩)) (H.push (.cells true 25 [.nilFunc])) := Step_alloc zt25 rfl
theorem ld26 (H : Hp) (a : Addr) : aload Tryd.prog 26 (.pointer (some a)) H = cellAt H a := aload_cell ag26 kn26 a
theorem ap26 (cs : Array Value) (off : Nat) : apart Tryd.prog 26 cs off = cs[off]? := apart_cell ag26 kn26 cs off
theorem so26 (H : Hp) (b off : Nat) (x : Value) : astore Tryd.prog 26 (.pointer (some ⟨b, off, none⟩)) x H = match H.get b with | .cells true e c => (if x.cells.size = 1 ∧ isTup x = false ∧ off + 1 ≤ c.length then some (H.put b (.cells true e (setAll c off x.cells.toList))) else none) | _ => none := astore_sz sz26 b off x
theorem al26 (X : Outer) (ops : Array Oper) (dd : Option Tmp) (ty : TypeId) (pos : String) (af : Array Edge) (e : Env) (H : Hp) (K : Value → Hp → Prop) : Step Tryd.prog X ops ⟨dd, .alloc 26, ty, pos, af, none⟩ e H K = K (.pointer (some ⟨H.next, 0, none⟩)) (H.push (.cells true 26 [.nilFunc])) := Step_alloc zt26 rfl
theorem ld27 (H : Hp) (a : Addr) : aload Tryd.prog 27 (.pointer (some a)) H = cellAt H a := aload_cell ag27 kn27 a
theorem ap27 (cs : Array Value) (off : Nat) : apart Tryd.prog 27 cs off = cs[off]? := apart_cell ag27 kn27 cs off
theorem so27 (H : Hp) (b off : Nat) (x : Value) : astore Tryd.prog 27 (.pointer (some ⟨b, off, none⟩)) x H = match H.get b with | .cells true e c => (if x.cells.size = 1 ∧ isTup x = false ∧ off + 1 ≤ c.length then some (H.put b (.cells true e (setAll c off x.cells.toList))) else none) | _ => none := astore_sz sz27 b off x
theorem al27 (X : Outer) (ops : Array Oper) (dd : Option Tmp) (ty : TypeId) (pos : String) (af : Array Edge) (e : Env) (H : Hp) (K : Value → Hp → Prop) : Step Tryd.prog X ops ⟨dd, .alloc 27, ty, pos, af, none⟩ e H K = K (.pointer (some ⟨H.next, 0, none⟩)) (H.push (.cells true 27 [.nilFunc])) := Step_alloc zt27 rfl
theorem ld28 (H : Hp) (a : Addr) : aload Tryd.prog 28 (.pointer (some a)) H = cellAt H a := aload_cell ag28 kn28 a
theorem ap28 (cs : Array Value) (off : Nat) : apart Tryd.prog 28 cs off = cs[off]? := apart_cell ag28 kn28 cs off
theorem so28 (H : Hp) (b off : Nat) (x : Value) : astore Tryd.prog 28 (.pointer (some ⟨b, off, none⟩)) x H = match H.get b with | .cells true e c => (if x.cells.size = 1 ∧ isTup x = false ∧ off + 1 ≤ c.length then some (H.put b (.cells true e (setAll c off x.cells.toList))) else none) | _ => none := astore_sz sz28 b off x
theorem al28 (X : Outer) (ops : Array Oper) (dd : Option Tmp) (ty : TypeId) (pos : String) (af : Array Edge) (e : Env) (H : Hp) (K : Value → Hp → Prop) : Step Tryd.prog X ops ⟨dd, .alloc 28, ty, pos, af, none⟩ e H K = K (.pointer (some ⟨H.next, 0, none⟩)) (H.push (.cells true 28 [.int .i64 0])) := Step_alloc zt28 rfl
theorem ld29 (H : Hp) (a : Addr) : aload Tryd.prog 29 (.pointer (some a)) H = cellAt H a := aload_cell ag29 kn29 a
theorem ap29 (cs : Array Value) (off : Nat) : apart Tryd.prog 29 cs off = cs[off]? := apart_cell ag29 kn29 cs off
theorem so29 (H : Hp) (b off : Nat) (x : Value) : astore Tryd.prog 29 (.pointer (some ⟨b, off, none⟩)) x H = match H.get b with | .cells true e c => (if x.cells.size = 1 ∧ isTup x = false ∧ off + 1 ≤ c.length then some (H.put b (.cells true e (setAll c off x.cells.toList))) else none) | _ => none := astore_sz sz29 b off x
theorem ld30 (H : Hp) (a : Addr) : aload Tryd.prog 30 (.pointer (some a)) H = cellAt H a := aload_cell ag30 kn30 a
theorem ap30 (cs : Array Value) (off : Nat) : apart Tryd.prog 30 cs off = cs[off]? := apart_cell ag30 kn30 cs off
theorem so30 (H : Hp) (b off : Nat) (x : Value) : astore Tryd.prog 30 (.pointer (some ⟨b, off, none⟩)) x H = match H.get b with | .cells true e c => (if x.cells.size = 1 ∧ isTup x = false ∧ off + 1 ≤ c.length then some (H.put b (.cells true e (setAll c off x.cells.toList))) else none) | _ => none := astore_sz sz30 b off x
theorem al30 (X : Outer) (ops : Array Oper) (dd : Option Tmp) (ty : TypeId) (pos : String) (af : Array Edge) (e : Env) (H : Hp) (K : Value → Hp → Prop) : Step Tryd.prog X ops ⟨dd, .alloc 30, ty, pos, af, none⟩ e H K = K (.pointer (some ⟨H.next, 0, none⟩)) (H.push (.cells true 30 [.nilFunc])) := Step_alloc zt30 rfl
theorem ld31 (H : Hp) (a : Addr) : aload Tryd.prog 31 (.pointer (some a)) H = cellAt H a := aload_cell ag31 kn31 a
theorem ap31 (cs : Array Value) (off : Nat) : apart Tryd.prog 31 cs off = cs[off]? := apart_cell ag31 kn31 cs off
theorem so31 (H : Hp) (b off : Nat) (x : Value) : astore Tryd.prog 31 (.pointer (some ⟨b, off, none⟩)) x H = match H.get b with | .cells true e c => (if x.cells.size = 1 ∧ isTup x = false ∧ off + 1 ≤ c.length then some (H.put b (.cells true e (setAll c off x.cells.toList))) else none) | _ => none := astore_sz sz31 b off x
theorem al31 (X : Outer) (ops : Array Oper) (dd : Option Tmp) (ty : TypeId) (pos : String) (af : Array Edge) (e : Env) (H : Hp) (K : Value → Hp → Prop) : Step Tryd.prog X ops ⟨dd, .alloc 31, ty, pos, af, none⟩ e H K = K (.pointer (some ⟨H.next, 0, none⟩)) (H.push (.cells true 31 [.nilFunc])) := Step_alloc zt31 rfl
theorem ld32 (H : Hp) (a : Addr) : aload Tryd.prog 32 (.pointer (some a)) H = cellAt H a := aload_cell ag32 kn32 a
theorem ap32 (cs : Array Value) (off : Nat) : apart Tryd.prog 32 cs off = cs[off]? := apart_cell ag32 kn32 cs off
theorem so32 (H : Hp) (b off : Nat) (x : Value) : astore Tryd.prog 32 (.pointer (some ⟨b, off, none⟩)) x H = match H.get b with | .cells true e c => (if x.cells.size = 1 ∧ isTup x = false ∧ off + 1 ≤ c.length then some (H.put b (.cells true e (setAll c off x.cells.toList))) else none) | _ => none := astore_sz sz32 b off x
theorem al32 (X : Outer) (ops : Array Oper) (dd : Option Tmp) (ty : TypeId) (pos : String) (af : Array Edge) (e : Env) (H : Hp) (K : Value → Hp → Prop) : Step Tryd.prog X ops ⟨dd, .alloc 32, ty, pos, af, none⟩ e H K = K (.pointer (some ⟨H.next, 0, none⟩)) (H.push (.cells true 32 [.nilFunc])) := Step_alloc zt32 rfl
theorem ld33 (H : Hp) (a : Addr) : aload Tryd.prog 33 (.pointer (some a)) H = cellAt H a := aload_cell ag33 kn33 a
theorem ap33 (cs : Array Value) (off : Nat) : apart Tryd.prog 33 cs off = cs[off]? := apart_cell ag33 kn33 cs off
theorem so33 (H : Hp) (b off : Nat) (x : Value) : astore Tryd.prog 33 (.pointer (some ⟨b, off, none⟩)) x H = match H.get b with | .cells true e c => (if x.cells.size = 1 ∧ isTup x = false ∧ off + 1 ≤ c.length then some (H.put b (.cells true e (setAll c off x.cells.toList))) else none) | _ => none := astore_sz sz33 b off x
theorem al33 (X : Outer) (ops : Array Oper) (dd : Option Tmp) (ty : TypeId) (pos : String) (af : Array Edge) (e : Env) (H : Hp) (K : Value → Hp → Prop) : Step Tryd.prog X ops ⟨dd, .alloc 33, ty, pos, af, none⟩ e H K = K (.pointer (some ⟨H.next, 0, none⟩)) (H.push (.cells true 33 [.nilFunc])) := Step_alloc zt33 rfl
theorem ld34 (H : Hp) (a : Addr) : aload Tryd.prog 34 (.pointer (some a)) H = cellAt H a := aload_cell ag34 kn34 a
theorem ap34 (cs : Array Value) (off : Nat) : apart Tryd.prog 34 cs off = cs[off]? := apart_cell ag34 kn34 cs off
theorem so34 (H : Hp) (b off : Nat) (x : Value) : astore Tryd.prog 34 (.pointer (some ⟨b, off, none⟩)) x H = match H.get b with | .cells true e c => (if x.cells.size = 1 ∧ isTup x = false ∧ off + 1 ≤ c.length then some (H.put b (.cells true e (setAll c off x.cells.toList))) else none) | _ => none := astore_sz sz34 b off x
theorem al34 (X : Outer) (ops : Array Oper) (dd : Option Tmp) (ty : TypeId) (pos : String) (af : Array Edge) (e : Env) (H : Hp) (K : Value → Hp → Prop) : Step Tryd.prog X ops ⟨dd, .alloc 34, ty, pos, af, none⟩ e H K = K (.pointer (some ⟨H.next, 0, none⟩)) (H.push (.cells true 34 [.nilFunc])) := Step_alloc zt34 rfl
theorem ld35 (H : Hp) (a : Addr) : aload Tryd.prog 35 (.pointer (some a)) H = cellAt H a := aload_cell ag35 kn35 a
theorem ap35 (cs : Array Value) (off : Nat) : apart Tryd.prog 35 cs off = cs[off]? := apart_cell ag35 kn35 cs off
theorem so35 (H : Hp) (b off : Nat) (x : Value) : astore Tryd.prog 35 (.pointer (some ⟨b, off, none⟩)) x H = match H.get b with | .cells true e c => (if x.cells.size = 1 ∧ isTup x = false ∧ off + 1 ≤ c.length then some (H.put b (.cells true e (setAll c off x.cells.toList))) else none) | _ => none := astore_sz sz35 b off x
theorem ld36 (H : Hp) (a : Addr) : aload Tryd.prog 36 (.pointer (some a)) H = cellAt H a := aload_cell ag36 kn36 a
theorem ap36 (cs : Array Value) (off : Nat) : apart Tryd.prog 36 cs off = cs[off]? := apart_cell ag36 kn36 cs off
theorem so36 (H : Hp) (b off : Nat) (x : Value) : astore Tryd.prog 36 (.pointer (some ⟨b, off, none⟩)) x H = match H.get b with | .cells true e c => (if x.cells.size = 1 ∧ isTup x = false ∧ off + 1 ≤ c.length then some (H.put b (.cells true e (setAll c off x.cells.toList))) else none) | _ => none := astore_sz sz36 b off x
theorem al36 (X : Outer) (ops : Array Oper) (dd : Option Tmp) (ty : TypeId) (pos : String) (af : Array Edge) (e : Env) (H : Hp) (K : Value → Hp → Prop) : Step Tryd.prog X ops ⟨dd, .alloc 36, ty, pos, af, none⟩ e H K = K (.pointer (some ⟨H.next, 0, none⟩)) (H.push (.cells true 36 [.nilFunc])) := Step_alloc zt36 rfl
theorem ld37 (H : Hp) (a : Addr) : aload Tryd.prog 37 (.pointer (some a)) H = cellAt H a := aload_cell ag37 kn37 a
theorem ap37 (cs : Array Value) (off : Nat) : apart Tryd.prog 37 cs off = cs[off]? := apart_cell ag37 kn37 cs off
theorem so37 (H : Hp) (b off : Nat) (x : Value) : astore Tryd.prog 37 (.pointer (some ⟨b, off, none⟩)) x H = match H.get b with | .cells true e c => (if x.cells.size = 1 ∧ isTup x = false ∧ off + 1 ≤ c.length then some (H.put b (.cells true e (setAll c off x.cells.toList))) else none) | _ => none := astore_sz sz37 b off x
theorem al37 (X : Outer) (ops : Array Oper) (dd : Option Tmp) (ty : TypeId) (pos : String) (af : Array Edge) (e : Env) (H : Hp) (K : Value → Hp → Prop) : Step Tryd.prog X ops ⟨dd, .alloc 37, ty, pos, af, none⟩ e H K = K (.pointer (some ⟨H.next, 0, none⟩)) (H.push (.cells true 37 [.nilFunc])) := Step_alloc zt37 rfl
theorem ld38 (H : Hp) (a : Addr) : aload Tryd.prog 38 (.pointer (some a)) H = cellAt H a := aload_cell ag38 kn38 a
theorem ap38 (cs : Array Value) (off : Nat) : apart Tryd.prog 38 cs off = cs[off]? := apart_cell ag38 kn38 cs off
theorem so38 (H : Hp) (b off : Nat) (x : Value) : astore Tryd.prog 38 (.pointer (some ⟨b, off, none⟩)) x H = match H.get b with | .cells true e c => (if x.cells.size = 1 ∧ isTup x = false ∧ off + 1 ≤ c.length then some (H.put b (.cells true e (setAll c off x.cells.toList))) else none) | _ => none := astore_sz sz38 b off x
theorem al38 (X : Outer) (ops : Array Oper) (dd : Option Tmp) (ty : TypeId) (pos : String) (af : Array Edge) (e : Env) (H : Hp) (K : Value → Hp → Prop) : Step Tryd.prog X ops ⟨dd, .alloc 38, ty, pos, af, none⟩ e H K = K (.pointer (some ⟨H.next, 0, none⟩)) (H.push (.cells true 38 [.nilFunc])) := Step_alloc zt38 rfl
theorem ld39 (H : Hp) (a : Addr) : aload Tryd.prog 39 (.pointer (some a)) H = cellAt H a := aload_cell ag39 kn39 a
theorem ap39 (cs : Array Value) (off : Nat) : apart Tryd.prog 39 cs off = cs[off]? := apart_cell ag39 kn39 cs off
theorem so39 (H : Hp) (b off : Nat) (x : Value) : astore Tryd.prog 39 (.pointer (some ⟨b, off, none⟩)) x H = match H.get b with | .cells true e c => (if x.cells.size = 1 ∧ isTup x = false ∧ off + 1 ≤ c.length then some (H.put b (.cells true e (setAll c off x.cells.toList))) else none) | _ => none := astore_sz sz39 b off x
theorem al39 (X : Outer) (ops : Array Oper) (dd : Option Tmp) (ty : TypeId) (pos : String) (af : Array Edge) (e : Env) (H : Hp) (K : Value → Hp → Prop) : Step Tryd.prog X ops ⟨dd, .alloc 39, ty, pos, af, none⟩ e H K = K (.pointer (some ⟨H.next, 0, none⟩)) (H.push (.cells true 39 [.int .u64 0])) := Step_alloc zt39 rfl
theorem ld40 (H : Hp) (a : Addr) : aload Tryd.prog 40 (.pointer (some a)) H = cellAt H a := aload_cell ag40 kn40 a
theorem ap40 (cs : Array Value) (off : Nat) : apart Tryd.prog 40 cs off = cs[off]? := apart_cell ag40 kn40 cs off
theorem so40 (H : Hp) (b off : Nat) (x : Value) : astore Tryd.prog 40 (.pointer (some ⟨b, off, none⟩)) x H = match H.get b with | .cells true e c => (if x.cells.size = 1 ∧ isTup x = false ∧ off + 1 ≤ c.length then some (H.put b (.cells true e (setAll c off x.cells.toList))) else none) | _ => none := astore_sz sz40 b off x
theorem al40 (X : Outer) (ops : Array Oper) (dd : Option Tmp) (ty : TypeId) (pos : String) (af : Array Edge) (e : Env) (H : Hp) (K : Value → Hp → Prop) : Step Tryd.prog X ops ⟨dd, .alloc 40, ty, pos, af, none⟩ e H K = K (.pointer (some ⟨H.next, 0, none⟩)) (H.push (.cells true 40 [.nilFunc])) := Step_alloc zt40 rfl
theorem ld41 (H : Hp) (a : Addr) : aload Tryd.prog 41 (.pointer (some a)) H = cellAt H a := aload_cell ag41 kn41 a
theorem ap41 (cs : Array Value) (off : Nat) : apart Tryd.prog 41 cs off = cs[off]? := apart_cell ag41 kn41 cs off
theorem so41 (H : Hp) (b off : Nat) (x : Value) : astore Tryd.prog 41 (.pointer (some ⟨b, off, none⟩)) x H = match H.get b with | .cells true e c => (if x.cells.size = 1 ∧ isTup x = false ∧ off + 1 ≤ c.length then some (H.put b (.cells true e (setAll c off x.cells.toList))) else none) | _ => none := astore_sz sz41 b off x
theorem al41 (X : Outer) (ops : Array Oper) (dd : Option Tmp) (ty : TypeId) (pos : String) (af : Array Edge) (e : Env) (H : Hp) (K : Value → Hp → Prop) : Step Tryd.prog X ops ⟨dd, .alloc 41, ty, pos, af, none⟩ e H K = K (.pointer (some ⟨H.next, 0, none⟩)) (H.push (.cells true 41 [.nilFunc])) := Step_alloc zt41 rfl
theorem ld42 (H : Hp) (a : Addr) : aload Tryd.prog 42 (.pointer (some a)) H = cellAt H a := aload_cell ag42 kn42 a
theorem ap42 (cs : Array Value) (off : Nat) : apart Tryd.prog 42 cs off = cs[off]? := apart_cell ag42 kn42 cs off
theorem so42 (H : Hp) (b off : Nat) (x : Value) : astore Tryd.prog 42 (.pointer (some ⟨b, off, none⟩)) x H = match H.get b with | .cells true e c => (if x.cells.size = 1 ∧ isTup x = false ∧ off + 1 ≤ c.length then some (H.put b (.cells true e (setAll c off x.cells.toList))) else none) | _ => none := astore_sz sz42 b off x
theorem al42 (X : Outer) (ops : Array Oper) (dd : Option Tmp) (ty : TypeId) (pos : String) (af : Array Edge) (e : Env) (H : Hp) (K : Value → Hp → Prop) : Step Tryd.prog X ops ⟨dd, .alloc 42, ty, pos, af, none⟩ e H K = K (.pointer (some ⟨H.next, 0, none⟩)) (H.push (.cells true 42 [.nilFunc])) := Step_alloc zt42 rfl
theorem ld43 (H : Hp) (a : Addr) : aload Tryd.prog 43 (.pointer (some a)) H = cellAt H a := aload_cell ag43 kn43 a
theorem ap43 (cs : Array Value) (off : Nat) : apart Tryd.prog 43 cs off = cs[off]? := apart_cell ag43 kn43 cs off
theorem so43 (H : Hp) (b off : Nat) (x : Value) : astore Tryd.prog 43 (.pointer (some ⟨b, off, none⟩)) x H = match H.get b with | .cells true e c => (if x.cells.size = 1 ∧ isTup x = false ∧ off + 1 ≤ c.length then some (H.put b (.cells true e (setAll c off x.cells.toList))) else none) | _ => none := astore_sz sz43 b off x
theorem al43 (X : Outer) (ops : Array Oper) (dd : Option Tmp) (ty : TypeId) (pos : String) (af : Array Edge) (e : Env) (H : Hp) (K : Value → Hp → Prop) : Step Tryd.prog X ops ⟨dd, .alloc 43, ty, pos, af, none⟩ e H K = K (.pointer (some ⟨H.next, 0, none⟩)) (H.push (.cells true 43 [.nilFunc])) := Step_alloc zt43 rfl
theorem ld44 (H : Hp) (a : Addr) : aload Tryd.prog 44 (.pointer (some a)) H = cellAt H a := aload_cell ag44 kn44 a
theorem ap44 (cs : Array Value) (off : Nat) : apart Tryd.prog 44 cs off = cs[off]? := apart_cell ag44 kn44 cs off
theorem so44 (H : Hp) (b off : Nat) (x : Value) : astore Tryd.prog 44 (.pointer (some ⟨b, off, none⟩)) x H = match H.get b with | .cells true e c => (if x.cells.size = 1 ∧ isTup x = false ∧ off + 1 ≤ c.length then some (H.put b (.cells true e (setAll c off x.cells.toList))) else none) | _ => none := astore_sz sz44 b off x
theorem al44 (X : Outer) (ops : Array Oper) (dd : Option Tmp) (ty : TypeId) (pos : String) (af : Array Edge) (e : Env) (H : Hp) (K : Value → Hp → Prop) : Step Tryd.prog X ops ⟨dd, .alloc 44, ty, pos, af, none⟩ e H K = K (.pointer (some ⟨H.next, 0, none⟩)) (H.push (.cells true 44 [.int .u64 0])) := Step_alloc zt44 rfl
theorem ld45 (H : Hp) (a : Addr) : aload Tryd.prog 45 (.pointer (some a)) H = cellAt H a := aload_cell ag45 kn45 a
theorem ap45 (cs : Array Value) (off : Nat) : apart Tryd.prog 45 cs off = cs[off]? := apart_cell ag45 kn45 cs off
theorem so45 (H : Hp) (b off : Nat) (x : Value) : astore Tryd.prog 45 (.pointer (some ⟨b, off, none⟩)) x H = match H.get b with | .cells true e c => (if x.cells.size = 1 ∧ isTup x = false ∧ off + 1 ≤ c.length then some (H.put b (.cells true e (setAll c off x.cells.toList))) else none) | _ => none := astore_sz sz45 b off x
theorem al45 (X : Outer) (ops : Array Oper) (dd : Option Tmp) (ty : TypeId) (pos : String) (af : Array Edge) (e : Env) (H : Hp) (K : Value → Hp → Prop) : Step Tryd.prog X ops ⟨dd, .alloc 45, ty, pos, af, none⟩ e H K = K (.pointer (some ⟨H.next, 0, none⟩)) (H.push (.cells true 45 [.nilFunc])) := Step_alloc zt45 rfl
theorem ld46 (H : Hp) (a : Addr) : aload Tryd.prog 46 (.pointer (some a)) H = cellAt H a := aload_cell ag46 kn46 a
theorem ap46 (cs : Array Value) (off : Nat) : apart Tryd.prog 46 cs off = cs[off]? := apart_cell ag46 kn46 cs off
theorem so46 (H : Hp) (b off : Nat) (x : Value) : astore Tryd.prog 46 (.pointer (some ⟨b, off, none⟩)) x H = match H.get b with | .cells true e c => (if x.cells.size = 1 ∧ isTup x = false ∧ off + 1 ≤ c.length then some (H.put b (.cells true e (setAll c off x.cells.toList))) else none) | _ => none := astore_sz sz46 b off x
theorem al46 (X : Outer) (ops : Array Oper) (dd : Option Tmp) (ty : TypeId) (pos : String) (af : Array Edge) (e : Env) (H : Hp) (K : Value → Hp → Prop) : Step Tryd.prog X ops ⟨dd, .alloc 46, ty, pos, af, none⟩ e H K = K (.pointer (some ⟨H.next, 0, none⟩)) (H.push (.cells true 46 [.nilFunc])) := Step_alloc zt46 rfl
theorem ld47 (H : Hp) (a : Addr) : aload Tryd.prog 47 (.pointer (some a)) H = cellAt H a := aload_cell ag47 kn47 a
theorem ap47 (cs : Array Value) (off : Nat) : apart Tryd.prog 47 cs off = cs[off]? := apart_cell ag47 kn47 cs off
theorem so47 (H : Hp) (b off : Nat) (x : Value) : astore Tryd.prog 47 (.pointer (some ⟨b, off, none⟩)) x H = match H.get b with | .cells true e c => (if x.cells.size = 1 ∧ isTup x = false ∧ off + 1 ≤ c.length then some (H.put b (.cells true e (setAll c off x.cells.toList))) else none) | _ => none := astore_sz sz47 b off x
theorem al47 (X : Outer) (ops : Array Oper) (dd : Option Tmp) (ty : TypeId) (pos : String) (af : Array Edge) (e : Env) (H : Hp) (K : Value → Hp → Prop) : Step Tryd.prog X ops ⟨dd, .alloc 47, ty, pos, af, none⟩ e H K = K (.pointer (some ⟨H.next, 0, none⟩)) (H.push (.cells true 47 [.nilFunc])) := Step_alloc zt47 rfl
theorem ld48 (H : Hp) (a : Addr) : aload Tryd.prog 48 (.pointer (some a)) H = cellAt H a := aload_cell ag48 kn48 a
theorem ap48 (cs : Array Value) (off : Nat) : apart Tryd.prog 48 cs off = cs[off]? := apart_cell ag48 kn48 cs off
theorem so48 (H : Hp) (b off : Nat) (x : Value) : astore Tryd.prog 48 (.pointer (some ⟨b, off, none⟩)) x H = match H.get b with | .cells true e c => (if x.cells.size = 1 ∧ isTup x = false ∧ off + 1 ≤ c.length then some (H.put b (.cells true e (setAll c off x.cells.toList))) else none) | _ => none := astore_sz sz48 b off x
theorem al48 (X : Outer) (ops : Array Oper) (dd : Option Tmp) (ty : TypeId) (pos : String) (af : Array Edge) (e : Env) (H : Hp) (K : Value → Hp → Prop) : Step Tryd.prog X ops ⟨dd, .alloc 48, ty, pos, af, none⟩ e H K = K (.pointer (some ⟨H.next, 0, none⟩)) (H.push (.cells true 48 [.nilFunc])) := Step_alloc zt48 rfl
theorem ld49 (H : Hp) (a : Addr) : aload Tryd.prog 49 (.pointer (some a)) H = cellAt H a := aload_cell ag49 kn49 a
theorem ap49 (cs : Array Value) (off : Nat) : apart Tryd.prog 49 cs off = cs[off]? := apart_cell ag49 kn49 cs off
theorem so49 (H : Hp) (b off : Nat) (x : Value) : astore Tryd.prog 49 (.pointer (some ⟨b, off, none⟩)) x H = match H.get b with | .cells true e c => (if x.cells.size = 1 ∧ isTup x = false ∧ off + 1 ≤ c.length then some (H.put b (.cells true e (setAll c off x.cells.toList))) else none) | _ => none := astore_sz sz49 b off x
theorem al49 (X : Outer) (ops : Array Oper) (dd : Option Tmp) (ty : TypeId) (pos : String) (af : Array Edge) (e : Env) (H : Hp) (K : Value → Hp → Prop) : Step Tryd.prog X ops ⟨dd, .alloc 49, ty, pos, af, none⟩ e H K = K (.pointer (some ⟨H.next, 0, none⟩)) (H.push (.cells true 49 [.nilFunc])) := Step_alloc zt49 rfl
theorem ld50 (H : Hp) (a : Addr) : aload Tryd.prog 50 (.pointer (some a)) H = cellAt H a := aload_cell ag50 kn50 a
theorem ap50 (cs : Array Value) (off : Nat) : apart Tryd.prog 50 cs off = cs[off]? := apart_cell ag50 kn50 cs off
theorem so50 (H : Hp) (b off : Nat) (x : Value) : astore Tryd.prog 50 (.pointer (some ⟨b, off, none⟩)) x H = match H.get b with | .cells true e c => (if x.cells.size = 1 ∧ isTup x = false ∧ off + 1 ≤ c.length then some (H.put b (.cells true e (setAll c off x.cells.toList))) else none) | _ => none := astore_sz sz50 b off x
theorem al50 (X : Outer) (ops : Array Oper) (dd : Option Tmp) (ty : TypeId) (pos : String) (af : Array Edge) (e : Env) (H : Hp) (K : Value → Hp → Prop) : Step Tryd.prog X ops ⟨dd, .alloc 50, ty, pos, af, none⟩ e H K = K (.pointer (some ⟨H.next, 0, none⟩)) (H.push (.cells true 50 [.slice none 0 0])) := Step_alloc zt50 rfl
theorem ix50 (b off n : Nat) (k : IntKind) (j : Int) : aindexAddr Tryd.prog 50 (.slice (some ⟨b, off, none⟩) n 1) (.int k j) = if 0 ≤ j ∧ j < n then some (.pointer (some ⟨b, off + j.toNat * 1, none⟩)) else none := aindexAddr_slice el50 sz9 b off n k j
theorem sl50 (b off n : Nat) (lo hi : Option Value) : aslice Tryd.prog 50 (.slice (some ⟨b, off, none⟩) n 1) lo hi none = (abound hi n).bind fun h => (abound lo 0).bind fun l => if 0 ≤ l ∧ l ≤ h ∧ h ≤ n then some (.slice (some ⟨b, off + l.toNat * 1, none⟩) (h - l).toNat 1) else none := aslice_slice el50 sz9 b off n lo hi
theorem sn50 (lo hi : Option Value) : aslice Tryd.prog 50 (.slice none 0 0) lo hi none = (abound hi 0).bind fun h => (abound lo 0).bind fun l => if 0 ≤ l ∧ l ≤ h ∧ h ≤ 0 then some (.slice none 0 0) else none := aslice_nil el50 sz9 lo hi
theorem gr50 (H : Hp) (s x : Value) : aappend Tryd.prog 50 50 s x H = (acells 1 x (alenOf x) H).bind fun new => agrow2 9 1 16 s (alenOf x) new H := aappend_eq el50 if50 tk50 s x
theorem bs50 (len : Nat) (parts : List (Nat × Value)) (hl : len * 1 ≤ 16777216) : abuild Tryd.prog 50 len parts = if parts.all (fun p => !isTup p.2) then (afill (fun i => some (i * 1, 1)) (List.replicate len (Value.cells (.string .empty)).toList).flatten parts).map fun cs => (1, 9, cs) else none := abuild_eq el50 if50 zu50 rfl len parts hl
theorem ln50 (H : Hp) (p : Option Addr) (n c : Nat) : alen Tryd.prog 50 (.slice p n c) H = some (.int .i64 n) := alen_slice el50 p n c
theorem ld51 (H : Hp) (a : Addr) : aload Tryd.prog 51 (.pointer (some a)) H = cellAt H a := aload_cell ag51 kn51 a
theorem ap51 (cs : Array Value) (off : Nat) : apart Tryd.prog 51 cs off = cs[off]? := apart_cell ag51 kn51 cs off
theorem so51 (H : Hp) (b off : Nat) (x : Value) : astore Tryd.prog 51 (.pointer (some ⟨b, off, none⟩)) x H = match H.get b with | .cells true e c => (if x.cells.size = 1 ∧ isTup x = false ∧ off + 1 ≤ c.length then some (H.put b (.cells true e (setAll c off x.cells.toList))) else none) | _ => none := astore_sz sz51 b off x
theorem al51 (X : Outer) (ops : Array Oper) (dd : Option Tmp) (ty : TypeId) (pos : String) (af : Array Edge) (e : Env) (H : Hp) (K : Value → Hp → Prop) : Step Tryd.prog X ops ⟨dd, .alloc 51, ty, pos, af, none⟩ e H K = K (.pointer (some ⟨H.next, 0, none⟩)) (H.push (.cells true 51 [.nilFunc])) := Step_alloc zt51 rfl
theorem ld52 (H : Hp) (a : Addr) : aload Tryd.prog 52 (.pointer (some a)) H = cellAt H a := aload_cell ag52 kn52 a
theorem ap52 (cs : Array Value) (off : Nat) : apart Tryd.prog 52 cs off = cs[off]? := apart_cell ag52 kn52 cs off
theorem so52 (H : Hp) (b off : Nat) (x : Value) : astore Tryd.prog 52 (.pointer (some ⟨b, off, none⟩)) x H = match H.get b with | .cells true e c => (if x.cells.size = 1 ∧ isTup x = false ∧ off + 1 ≤ c.length then some (H.put b (.cells true e (setAll c off x.cells.toList))) else none) | _ => none := astore_sz sz52 b off x
theorem ld53 (H : Hp) (a : Addr) : aload Tryd.prog 53 (.pointer (some a)) H = cellAt H a := aload_cell ag53 kn53 a
theorem ap53 (cs : Array Value) (off : Nat) : apart Tryd.prog 53 cs off = cs[off]? := apart_cell ag53 kn53 cs off
theorem so53 (H : Hp) (b off : Nat) (x : Value) : astore Tryd.prog 53 (.pointer (some ⟨b, off, none⟩)) x H = match H.get b with | .cells true e c => (if x.cells.size = 1 ∧ isTup x = false ∧ off + 1 ≤ c.length then some (H.put b (.cells true e (setAll c off x.cells.toList))) else none) | _ => none := astore_sz sz53 b off x
theorem al53 (X : Outer) (ops : Array Oper) (dd : Option Tmp) (ty : TypeId) (pos : String) (af : Array Edge) (e : Env) (H : Hp) (K : Value → Hp → Prop) : Step Tryd.prog X ops ⟨dd, .alloc 53, ty, pos, af, none⟩ e H K = K (.pointer (some ⟨H.next, 0, none⟩)) (H.push (.cells true 53 [.nilFunc])) := Step_alloc zt53 rfl
theorem ld54 (H : Hp) (a : Addr) : aload Tryd.prog 54 (.pointer (some a)) H = cellAt H a := aload_cell ag54 kn54 a
theorem ap54 (cs : Array Value) (off : Nat) : apart Tryd.prog 54 cs off = cs[off]? := apart_cell ag54 kn54 cs off
theorem so54 (H : Hp) (b off : Nat) (x : Value) : astore Tryd.prog 54 (.pointer (some ⟨b, off, none⟩)) x H = match H.get b with | .cells true e c => (if x.cells.size = 1 ∧ isTup x = false ∧ off + 1 ≤ c.length then some (H.put b (.cells true e (setAll c off x.cells.toList))) else none) | _ => none := astore_sz sz54 b off x
theorem ld55 (H : Hp) (a : Addr) : aload Tryd.prog 55 (.pointer (some a)) H = cellAt H a := aload_cell ag55 kn55 a
theorem ap55 (cs : Array Value) (off : Nat) : apart Tryd.prog 55 cs off = cs[off]? := apart_cell ag55 kn55 cs off
theorem so55 (H : Hp) (b off : Nat) (x : Value) : astore Tryd.prog 55 (.pointer (some ⟨b, off, none⟩)) x H = match H.get b with | .cells true e c => (if x.cells.size = 1 ∧ isTup x = false ∧ off + 1 ≤ c.length then some (H.put b (.cells true e (setAll c off x.cells.toList))) else none) | _ => none := astore_sz sz55 b off x
theorem al55 (X : Outer) (ops : Array Oper) (dd : Option Tmp) (ty : TypeId) (pos : String) (af : Array Edge) (e : Env) (H : Hp) (K : Value → Hp → Prop) : Step Tryd.prog X ops ⟨dd, .alloc 55, ty, pos, af, none⟩ e H K = K (.pointer (some ⟨H.next, 0, none⟩)) (H.push (.cells true 55 [.nilFunc])) := Step_alloc zt55 rfl
theorem ld56 (H : Hp) (a : Addr) : aload Tryd.prog 56 (.pointer (some a)) H = cellAt H a := aload_cell ag56 kn56 a
theorem ap56 (cs : Array Value) (off : Nat) : apart Tryd.prog 56 cs off = cs[off]? := apart_cell ag56 kn56 cs off
theorem so56 (H : Hp) (b off : Nat) (x : Value) : astore Tryd.prog 56 (.pointer (some ⟨b, off, none⟩)) x H = match H.get b with | .cells true e c => (if x.cells.size = 1 ∧ isTup x = false ∧ off + 1 ≤ c.length then some (H.put b (.cells true e (setAll c off x.cells.toList))) else none) | _ => none := astore_sz sz56 b off x
theorem al56 (X : Outer) (ops : Array Oper) (dd : Option Tmp) (ty : TypeId) (pos : String) (af : Array Edge) (e : Env) (H : Hp) (K : Value → Hp → Prop) : Step Tryd.prog X ops ⟨dd, .alloc 56, ty, pos, af, none⟩ e H K = K (.pointer (some ⟨H.next, 0, none⟩)) (H.push (.cells true 56 [.nilFunc])) := Step_alloc zt56 rfl
theorem ld57 (H : Hp) (a : Addr) : aload Tryd.prog 57 (.pointer (some a)) H = cellAt H a := aload_cell ag57 kn57 a
theorem ap57 (cs : Array Value) (off : Nat) : apart Tryd.prog 57 cs off = cs[off]? := apart_cell ag57 kn57 cs off
theorem so57 (H : Hp) (b off : Nat) (x : Value) : astore Tryd.prog 57 (.pointer (some ⟨b, off, none⟩)) x H = match H.get b with | .cells true e c => (if x.cells.size = 1 ∧ isTup x = false ∧ off + 1 ≤ c.length then some (H.put b (.cells true e (setAll c off x.cells.toList))) else none) | _ => none := astore_sz sz57 b off x
theorem al57 (X : Outer) (ops : Array Oper) (dd : Option Tmp) (ty : TypeId) (pos : String) (af : Array Edge) (e : Env) (H : Hp) (K : Value → Hp → Prop) : Step Tryd.prog X ops ⟨dd, .alloc 57, ty, pos, af, none⟩ e H K = K (.pointer (some ⟨H.next, 0, none⟩)) (H.push (.cells true 57 [.nilFunc])) := Step_alloc zt57 rfl
theorem ld58 (H : Hp) (a : Addr) : aload Tryd.prog 58 (.pointer (some a)) H = cellAt H a := aload_cell ag58 kn58 a
theorem ap58 (cs : Array Value) (off : Nat) : apart Tryd.prog 58 cs off = cs[off]? := apart_cell ag58 kn58 cs off
theorem so58 (H : Hp) (b off : Nat) (x : Value) : astore Tryd.prog 58 (.pointer (some ⟨b, off, none⟩)) x H = match H.get b with | .cells true e c => (if x.cells.size = 1 ∧ isTup x = false ∧ off + 1 ≤ c.length then some (H.put b (.cells true e (setAll c off x.cells.toList))) else none) | _ => none := astore_sz sz58 b off x
theorem ld59 (H : Hp) (a : Addr) : aload Tryd.prog 59 (.pointer (some a)) H = cellAt H a := aload_cell ag59 kn59 a
theorem ap59 (cs : Array Value) (off : Nat) : apart Tryd.prog 59 cs off = cs[off]? := apart_cell ag59 kn59 cs off
theorem so59 (H : Hp) (b off : Nat) (x : Value) : astore Tryd.prog 59 (.pointer (some ⟨b, off, none⟩)) x H = match H.get b with | .cells true e c => (if x.cells.size = 1 ∧ isTup x = false ∧ off + 1 ≤ c.length then some (H.put b (.cells true e (setAll c off x.cells.toList))) else none) | _ => none := astore_sz sz59 b off x
theorem al59 (X : Outer) (ops : Array Oper) (dd : Option Tmp) (ty : TypeId) (pos : String) (af : Array Edge) (e : Env) (H : Hp) (K : Value → Hp → Prop) : Step Tryd.prog X ops ⟨dd, .alloc 59, ty, pos, af, none⟩ e H K = K (.pointer (some ⟨H.next, 0, none⟩)) (H.push (.cells true 59 [.nilFunc])) := Step_alloc zt59 rfl
theorem ld60 (H : Hp) (a : Addr) : aload Tryd.prog 60 (.pointer (some a)) H = cellAt H a := aload_cell ag60 kn60 a
theorem ap60 (cs : Array Value) (off : Nat) : apart Tryd.prog 60 cs off = cs[off]? := apart_cell ag60 kn60 cs off
theorem so60 (H : Hp) (b off : Nat) (x : Value) : astore Tryd.prog 60 (.pointer (some ⟨b, off, none⟩)) x H = match H.get b with | .cells true e c => (if x.cells.size = 1 ∧ isTup x = false ∧ off + 1 ≤ c.length then some (H.put b (.cells true e (setAll c off x.cells.toList))) else none) | _ => none := astore_sz sz60 b off x
theorem al60 (X : Outer) (ops : Array Oper) (dd : Option Tmp) (ty : TypeId) (pos : String) (af : Array Edge) (e : Env) (H : Hp) (K : Value → Hp → Prop) : Step Tryd.prog X ops ⟨dd, .alloc 60, ty, pos, af, none⟩ e H K = K (.pointer (some ⟨H.next, 0, none⟩)) (H.push (.cells true 60 [.nilFunc])) := Step_alloc zt60 rfl
theorem ld61 (H : Hp) (a : Addr) : aload Tryd.prog 61 (.pointer (some a)) H = cellAt H a := aload_cell ag61 kn61 a
theorem ap61 (cs : Array Value) (off : Nat) : apart Tryd.prog 61 cs off = cs[off]? := apart_cell ag61 kn61 cs off
theorem so61 (H : Hp) (b off : Nat) (x : Value) : astore Tryd.prog 61 (.pointer (some ⟨b, off, none⟩)) x H = match H.get b with | .cells true e c => (if x.cells.size = 1 ∧ isTup x = false ∧ off + 1 ≤ c.length then some (H.put b (.cells true e (setAll c off x.cells.toList))) else none) | _ => none := astore_sz sz61 b off x
theorem al61 (X : Outer) (ops : Array Oper) (dd : Option Tmp) (ty : TypeId) (pos : String) (af : Array Edge) (e : Env) (H : Hp) (K : Value → Hp → Prop) : Step Tryd.prog X ops ⟨dd, .alloc 61, ty, pos, af, none⟩ e H K = K (.pointer (some ⟨H.next, 0, none⟩)) (H.push (.cells true 61 [.nilFunc])) := Step_alloc zt61 rfl
theorem ld62 (H : Hp) (a : Addr) : aload Tryd.prog 62 (.pointer (some a)) H = cellAt H a := aload_cell ag62 kn62 a
theorem ap62 (cs : Array Value) (off : Nat) : apart Tryd.prog 62 cs off = cs[off]? := apart_cell ag62 kn62 cs off
theorem so62 (H : Hp) (b off : Nat) (x : Value) : astore Tryd.prog 62 (.pointer (some ⟨b, off, none⟩)) x H = match H.get b with | .cells true e c => (if x.cells.size = 1 ∧ isTup x = false ∧ off + 1 ≤ c.length then some (H.put b (.cells true e (setAll c off x.cells.toList))) else none) | _ => none := astore_sz sz62 b off x
theorem al62 (X : Outer) (ops : Array Oper) (dd : Option Tmp) (ty : TypeId) (pos : String) (af : Array Edge) (e : Env) (H : Hp) (K : Value → Hp → Prop) : Step Tryd.prog X ops ⟨dd, .alloc 62, ty, pos, af, none⟩ e H K = K (.pointer (some ⟨H.next, 0, none⟩)) (H.push (.cells true 62 [.slice none 0 0])) := Step_alloc zt62 rfl
theorem ix62 (b off n : Nat) (k : IntKind) (j : Int) : aindexAddr Tryd.prog 62 (.slice (some ⟨b, off, none⟩) n 1) (.int k j) = if 0 ≤ j ∧ j < n then some (.pointer (some ⟨b, off + j.toNat * 1, none⟩)) else none := aindexAddr_slice el62 sz3 b off n k j
theorem sl62 (b off n : Nat) (lo hi : Option Value) : aslice Tryd.prog 62 (.slice (some ⟨b, off, none⟩) n 1) lo hi none = (abound hi n).bind fun h => (abound lo 0).bind fun l => if 0 ≤ l ∧ l ≤ h ∧ h ≤ n then some (.slice (some ⟨b, off + l.toNat * 1, none⟩) (h - l).toNat 1) else none := aslice_slice el62 sz3 b off n lo hi
theorem sn62 (lo hi : Option Value) : aslice Tryd.prog 62 (.slice none 0 0) lo hi none = (abound hi 0).bind fun h => (abound lo 0).bind fun l => if 0 ≤ l ∧ l ≤ h ∧ h ≤ 0 then some (.slice none 0 0) else none := aslice_nil el62 sz3 lo hi
theorem gr62 (H : Hp) (s x : Value) : aappend Tryd.prog 62 62 s x H = (acells 1 x (alenOf x) H).bind fun new => agrow2 3 1 8 s (alenOf x) new H := aappend_eq el62 if62 tk62 s x
theorem bs62 (len : Nat) (parts : List (Nat × Value)) (hl : len * 1 ≤ 16777216) : abuild Tryd.prog 62 len parts = if parts.all (fun p => !isTup p.2) then (afill (fun i => some (i * 1, 1)) (List.replicate len (Value.cells (.int .i64 0)).toList).flatten parts).map fun cs => (1, 3, cs) else none := abuild_eq el62 if62 zu62 rfl len parts hl
theorem ln62 (H : Hp) (p : Option Addr) (n c : Nat) : alen Tryd.prog 62 (.slice p n c) H = some (.int .i64 n) := alen_slice el62 p n c
theorem ld63 (H : Hp) (a : Addr) : aload Tryd.prog 63 (.pointer (some a)) H = cellAt H a := aload_cell ag63 kn63 a
theorem ap63 (cs : Array Value) (off : Nat) : apart Tryd.prog 63 cs off = cs[off]? := apart_cell ag63 kn63 cs off
theorem so63 (H : Hp) (b off : Nat) (x : Value) : astore Tryd.prog 63 (.pointer (some ⟨b, off, none⟩)) x H = match H.get b with | .cells true e c => (if x.cells.size = 1 ∧ isTup x = false ∧ off + 1 ≤ c.length then some (H.put b (.cells true e (setAll c off x.cells.toList))) else none) | _ => none := astore_sz sz63 b off x
theorem al63 (X : Outer) (ops : Array Oper) (dd : Option Tmp) (ty : TypeId) (pos : String) (af : Array Edge) (e : Env) (H : Hp) (K : Value → Hp → Prop) : Step Tryd.prog X ops ⟨dd, .alloc 63, ty, pos, af, none⟩ e H K = K (.pointer (some ⟨H.next, 0, none⟩)) (H.push (.cells true 63 [.nilFunc])) := Step_alloc zt63 rfl
theorem ld64 (H : Hp) (a : Addr) : aload Tryd.prog 64 (.pointer (some a)) H = cellAt H a := aload_cell ag64 kn64 a
theorem ap64 (cs : Array Value) (off : Nat) : apart Tryd.prog 64 cs off = cs[off]? := apart_cell ag64 kn64 cs off
theorem so64 (H : Hp) (b off : Nat) (x : Value) : astore Tryd.prog 64 (.pointer (some ⟨b, off, none⟩)) x H = match H.get b with | .cells true e c => (if x.cells.size = 1 ∧ isTup x = false ∧ off + 1 ≤ c.length then some (H.put b (.cells true e (setAll c off x.cells.toList))) else none) | _ => none := astore_sz sz64 b off x
theorem al64 (X : Outer) (ops : Array Oper) (dd : Option Tmp) (ty : TypeId) (pos : String) (af : Array Edge) (e : Env) (H : Hp) (K : Value → Hp → Prop) : Step Tryd.prog X ops ⟨dd, .alloc 64, ty, pos, af, none⟩ e H K = K (.pointer (some ⟨H.next, 0, none⟩)) (H.push (.cells true 64 [.nilFunc])) := Step_alloc zt64 rfl
theorem ld65 (H : Hp) (a : Addr) : aload Tryd.prog 65 (.pointer (some a)) H = cellAt H a := aload_cell ag65 kn65 a
theorem ap65 (cs : Array Value) (off : Nat) : apart Tryd.prog 65 cs off = cs[off]? := apart_cell ag65 kn65 cs off
theorem so65 (H : Hp) (b off : Nat) (x : Value) : astore Tryd.prog 65 (.pointer (some ⟨b, off, none⟩)) x H = match H.get b with | .cells true e c => (if x.cells.size = 1 ∧ isTup x = false ∧ off + 1 ≤ c.length then some (H.put b (.cells true e (setAll c off x.cells.toList))) else none) | _ => none := astore_sz sz65 b off x
theorem al65 (X : Outer) (ops : Array Oper) (dd : Option Tmp) (ty : TypeId) (pos : String) (af : Array Edge) (e : Env) (H : Hp) (K : Value → Hp → Prop) : Step Tryd.prog X ops ⟨dd, .alloc 65, ty, pos, af, none⟩ e H K = K (.pointer (some ⟨H.next, 0, none⟩)) (H.push (.cells true 65 [.nilFunc])) := Step_alloc zt65 rfl
theorem ld66 (H : Hp) (a : Addr) : aload Tryd.prog 66 (.pointer (some a)) H = cellAt H a := aload_cell ag66 kn66 a
theorem ap66 (cs : Array Value) (off : Nat) : apart Tryd.prog 66 cs off = cs[off]? := apart_cell ag66 kn66 cs off
theorem so66 (H : Hp) (b off : Nat) (x : Value) : astore Tryd.prog 66 (.pointer (some ⟨b, off, none⟩)) x H = match H.get b with | .cells true e c => (if x.cells.size = 1 ∧ isTup x = false ∧ off + 1 ≤ c.length then some (H.put b (.cells true e (setAll c off x.cells.toList))) else none) | _ => none := astore_sz sz66 b off x
theorem al66 (X : Outer) (ops : Array Oper) (dd : Option Tmp) (ty : TypeId) (pos : String) (af : Array Edge) (e : Env) (H : Hp) (K : Value → Hp → Prop) : Step Tryd.prog X ops ⟨dd, .alloc 66, ty, pos, af, none⟩ e H K = K (.pointer (some ⟨H.next, 0, none⟩)) (H.push (.cells true 66 [.slice none 0 0])) := Step_alloc zt66 rfl
theorem ix66 (b off n : Nat) (k : IntKind) (j : Int) : aindexAddr Tryd.prog 66 (.slice (some ⟨b, off, none⟩) n 3) (.int k j) = if 0 ≤ j ∧ j < n then some (.pointer (some ⟨b, off + j.toNat * 3, none⟩)) else none := aindexAddr_slice el66 sz23 b off n k j
theorem sl66 (b off n : Nat) (lo hi : Option Value) : aslice Tryd.prog 66 (.slice (some ⟨b, off, none⟩) n 3) lo hi none = (abound hi n).bind fun h => (abound lo 0).bind fun l => if 0 ≤ l ∧ l ≤ h ∧ h ≤ n then some (.slice (some ⟨b, off + l.toNat * 3, none⟩) (h - l).toNat 3) else none := aslice_slice el66 sz23 b off n lo hi
theorem sn66 (lo hi : Option Value) : aslice Tryd.prog 66 (.slice none 0 0) lo hi none = (abound hi 0).bind fun h => (abound lo 0).bind fun l => if 0 ≤ l ∧ l ≤ h ∧ h ≤ 0 then some (.slice none 0 0) else none := aslice_nil el66 sz23 lo hi
theorem gr66 (H : Hp) (s x : Value) : aappend Tryd.prog 66 66 s x H = (acells 3 x (alenOf x) H).bind fun new => agrow2 23 3 32 s (alenOf x) new H := aappend_eq el66 if66 tk66 s x
theorem bs66 (len : Nat) (parts : List (Nat × Value)) (hl : len * 3 ≤ 16777216) : abuild Tryd.prog 66 len parts = if parts.all (fun p => !isTup p.2) then (afill (fun i => some (i * 3, 3)) (List.replicate len (Value.cells (.agg #[.int .i64 0, .int .i64 0, .string .empty])).toList).flatten parts).map fun cs => (3, 23, cs) else none := abuild_eq el66 if66 zu66 rfl len parts hl
theorem ln66 (H : Hp) (p : Option Addr) (n c : Nat) : alen Tryd.prog 66 (.slice p n c) H = some (.int .i64 n) := alen_slice el66 p n c
theorem ld67 (H : Hp) (a : Addr) : aload Tryd.prog 67 (.pointer (some a)) H = cellAt H a := aload_cell ag67 kn67 a
theorem ap67 (cs : Array Value) (off : Nat) : apart Tryd.prog 67 cs off = cs[off]? := apart_cell ag67 kn67 cs off
theorem so67 (H : Hp) (b off : Nat) (x : Value) : astore Tryd.prog 67 (.pointer (some ⟨b, off, none⟩)) x H = match H.get b with | .cells true e c => (if x.cells.size = 1 ∧ isTup x = false ∧ off + 1 ≤ c.length then some (H.put b (.cells true e (setAll c off x.cells.toList))) else none) | _ => none := astore_sz sz67 b off x
theorem al67 (X : Outer) (ops : Array Oper) (dd : Option Tmp) (ty : TypeId) (pos : String) (af : Array Edge) (e : Env) (H : Hp) (K : Value → Hp → Prop) : Step Tryd.prog X ops ⟨dd, .alloc 67, ty, pos, af, none⟩ e H K = K (.pointer (some ⟨H.next, 0, none⟩)) (H.push (.cells true 67 [.nilFunc])) := Step_alloc zt67 rfl
theorem ld68 (H : Hp) (a : Addr) : aload Tryd.prog 68 (.pointer (some a)) H = cellAt H a := aload_cell ag68 kn68 a
theorem ap68 (cs : Array Value) (off : Nat) : apart Tryd.prog 68 cs off = cs[off]? := apart_cell ag68 kn68 cs off
theorem so68 (H : Hp) (b off : Nat) (x : Value) : astore Tryd.prog 68 (.pointer (some ⟨b, off, none⟩)) x H = match H.get b with | .cells true e c => (if x.cells.size = 1 ∧ isTup x = false ∧ off + 1 ≤ c.length then some (H.put b (.cells true e (setAll c off x.cells.toList))) else none) | _ => none := astore_sz sz68 b off x
theorem ld69 (H : Hp) (a : Addr) : aload Tryd.prog 69 (.pointer (some a)) H = cellAt H a := aload_cell ag69 kn69 a
theorem ap69 (cs : Array Value) (off : Nat) : apart Tryd.prog 69 cs off = cs[off]? := apart_cell ag69 kn69 cs off
theorem so69 (H : Hp) (b off : Nat) (x : Value) : astore Tryd.prog 69 (.pointer (some ⟨b, off, none⟩)) x H = match H.get b with | .cells true e c => (if x.cells.size = 1 ∧ isTup x = false ∧ off + 1 ≤ c.length then some (H.put b (.cells true e (setAll c off x.cells.toList))) else none) | _ => none := astore_sz sz69 b off x
theorem al69 (X : Outer) (ops : Array Oper) (dd : Option Tmp) (ty : TypeId) (pos : String) (af : Array Edge) (e : Env) (H : Hp) (K : Value → Hp → Prop) : Step Tryd.prog X ops ⟨dd, .alloc 69, ty, pos, af, none⟩ e H K = K (.pointer (some ⟨H.next, 0, none⟩)) (H.push (.cells true 69 [.nilFunc])) := Step_alloc zt69 rfl
theorem ld70 (H : Hp) (a : Addr) : aload Tryd.prog 70 (.pointer (some a)) H = cellAt H a := aload_cell ag70 kn70 a
theorem ap70 (cs : Array Value) (off : Nat) : apart Tryd.prog 70 cs off = cs[off]? := apart_cell ag70 kn70 cs off
theorem so70 (H : Hp) (b off : Nat) (x : Value) : astore Tryd.prog 70 (.pointer (some ⟨b, off, none⟩)) x H = match H.get b with | .cells true e c => (if x.cells.size = 1 ∧ isTup x = false ∧ off + 1 ≤ c.length then some (H.put b (.cells true e (setAll c off x.cells.toList))) else none) | _ => none := astore_sz sz70 b off x
theorem al70 (X : Outer) (ops : Array Oper) (dd : Option Tmp) (ty : TypeId) (pos : String) (af : Array Edge) (e : Env) (H : Hp) (K : Value → Hp → Prop) : Step Tryd.prog X ops ⟨dd, .alloc 70, ty, pos, af, none⟩ e H K = K (.pointer (some ⟨H.next, 0, none⟩)) (H.push (.cells true 70 [.nilFunc])) := Step_alloc zt70 rfl
theorem ld71 (H : Hp) (a : Addr) : aload Tryd.prog 71 (.pointer (some a)) H = (cellsAt H a 24).map fun c => .agg c.toArray := aload_agg ag71 sz71 a
theorem ap71 (cs : Array Value) (off : Nat) : apart Tryd.prog 71 cs off = if off + 24 ≤ cs.size then some (.agg (cs.extract off (off + 24))) else none := apart_agg ag71 sz71 cs off
theorem so71 (H : Hp) (b off : Nat) (x : Value) : astore Tryd.prog 71 (.pointer (some ⟨b, off, none⟩)) x H = match H.get b with | .cells true e c => (if x.cells.size = 24 ∧ isTup x = false ∧ off + 24 ≤ c.length then some (H.put b (.cells true e (setAll c off x.cells.toList))) else none) | _ => none := astore_sz sz71 b off x
theorem al71 (X : Outer) (ops : Array Oper) (dd : Option Tmp) (ty : TypeId) (pos : String) (af : Array Edge) (e : Env) (H : Hp) (K : Value → Hp → Prop) : Step Tryd.prog X ops ⟨dd, .alloc 71, ty, pos, af, none⟩ e H K = K (.pointer (some ⟨H.next, 0, none⟩)) (H.push (.cells true 71 [.int .u8 0, .int .u8 0, .int .u8 0, .int .u8 0, .int .u8 0, .int .u8 0, .int .u8 0, .int .u8 0, .int .u8 0, .int .u8 0, .int .u8 0, .int .u8 0, .int .u8 0, .int .u8 0, .int .u8 0, .int .u8 0, .int .u8 0, .int .u8 0, .int .u8 0, .int .u8 0, .int .u8 0, .int .u8 0, .int .u8 0, .int .u8 0])) := Step_alloc zt71 rfl
theorem ld72 (H : Hp) (a : Addr) : aload Tryd.prog 72 (.pointer (some a)) H = cellAt H a := aload_cell ag72 kn72 a
theorem ap72 (cs : Array Value) (off : Nat) : apart Tryd.prog 72 cs off = cs[off]? := apart_cell ag72 kn72 cs off
theorem so72 (H : Hp) (b off : Nat) (x : Value) : astore Tryd.prog 72 (.pointer (some ⟨b, off, none⟩)) x H = match H.get b with | .cells true e c => (if x.cells.size = 1 ∧ isTup x = false ∧ off + 1 ≤ c.length then some (H.put b (.cells true e (setAll c off x.cells.toList))) else none) | _ => none := astore_sz sz72 b off x
theorem al72 (X : Outer) (ops : Array Oper) (dd : Option Tmp) (ty : TypeId) (pos : String) (af : Array Edge) (e : Env) (H : Hp) (K : Value → Hp → Prop) : Step Tryd.prog X ops ⟨dd, .alloc 72, ty, pos, af, none⟩ e H K = K (.pointer (some ⟨H.next, 0, none⟩)) (H.push (.cells true 72 [.nilFunc])) := Step_alloc zt72 rfl
theorem ld73 (H : Hp) (a : Addr) : aload Tryd.prog 73 (.pointer (some a)) H = cellAt H a := aload_cell ag73 kn73 a
theorem ap73 (cs : Array Value) (off : Nat) : apart Tryd.prog 73 cs off = cs[off]? := apart_cell ag73 kn73 cs off
theorem so73 (H : Hp) (b off : Nat) (x : Value) : astore Tryd.prog 73 (.pointer (some ⟨b, off, none⟩)) x H = match H.get b with | .cells true e c => (if x.cells.size = 1 ∧ isTup x = false ∧ off + 1 ≤ c.length then some (H.put b (.cells true e (setAll c off x.cells.toList))) else none) | _ => none := astore_sz sz73 b off x
theorem al73 (X : Outer) (ops : Array Oper) (dd : Option Tmp) (ty : TypeId) (pos : String) (af : Array Edge) (e : Env) (H : Hp) (K : Value → Hp → Prop) : Step Tryd.prog X ops ⟨dd, .alloc 73, ty, pos, af, none⟩ e H K = K (.pointer (some ⟨H.next, 0, none⟩)) (H.push (.cells true 73 [.nilFunc])) := Step_alloc zt73 rfl
theorem ld74 (H : Hp) (a : Addr) : aload Tryd.prog 74 (.pointer (some a)) H = cellAt H a := aload_cell ag74 kn74 a
theorem ap74 (cs : Array Value) (off : Nat) : apart Tryd.prog 74 cs off = cs[off]? := apart_cell ag74 kn74 cs off
theorem so74 (H : Hp) (b off : Nat) (x : Value) : astore Tryd.prog 74 (.pointer (some ⟨b, off, none⟩)) x H = match H.get b with | .cells true e c => (if x.cells.size = 1 ∧ isTup x = false ∧ off + 1 ≤ c.length then some (H.put b (.cells true e (setAll c off x.cells.toList))) else none) | _ => none := astore_sz sz74 b off x
theorem ld75 (H : Hp) (a : Addr) : aload Tryd.prog 75 (.pointer (some a)) H = cellAt H a := aload_cell ag75 kn75 a
theorem ap75 (cs : Array Value) (off : Nat) : apart Tryd.prog 75 cs off = cs[off]? := apart_cell ag75 kn75 cs off
theorem so75 (H : Hp) (b off : Nat) (x : Value) : astore Tryd.prog 75 (.pointer (some ⟨b, off, none⟩)) x H = match H.get b with | .cells true e c => (if x.cells.size = 1 ∧ isTup x = false ∧ off + 1 ≤ c.length then some (H.put b (.cells true e (setAll c off x.cells.toList))) else none) | _ => none := astore_sz sz75 b off x
theorem al75 (X : Outer) (ops : Array Oper) (dd : Option Tmp) (ty : TypeId) (pos : String) (af : Array Edge) (e : Env) (H : Hp) (K : Value → Hp → Prop) : Step Tryd.prog X ops ⟨dd, .alloc 75, ty, pos, af, none⟩ e H K = K (.pointer (some ⟨H.next, 0, none⟩)) (H.push (.cells true 75 [.nilFunc])) := Step_alloc zt75 rfl
theorem ld76 (H : Hp) (a : Addr) : aload Tryd.prog 76 (.pointer (some a)) H = cellAt H a := aload_cell ag76 kn76 a
theorem ap76 (cs : Array Value) (off : Nat) : apart Tryd.prog 76 cs off = cs[off]? := apart_cell ag76 kn76 cs off
theorem so76 (H : Hp) (b off : Nat) (x : Value) : astore Tryd.prog 76 (.pointer (some ⟨b, off, none⟩)) x H = match H.get b with | .cells true e c => (if x.cells.size = 1 ∧ isTup x = false ∧ off + 1 ≤ c.length then some (H.put b (.cells true e (setAll c off x.cells.toList))) else none) | _ => none := astore_sz sz76 b off x
theorem al76 (X : Outer) (ops : Array Oper) (dd : Option Tmp) (ty : TypeId) (pos : String) (af : Array Edge) (e : Env) (H : Hp) (K : Value → Hp → Prop) : Step Tryd.prog X ops ⟨dd, .alloc 76, ty, pos, af, none⟩ e H K = K (.pointer (some ⟨H.next, 0, none⟩)) (H.push (.cells true 76 [.nilFunc])) := Step_alloc zt76 rfl
theorem ld77 (H : Hp) (a : Addr) : aload Tryd.prog 77 (.pointer (some a)) H = cellAt H a := aload_cell ag77 kn77 a
theorem ap77 (cs : Array Value) (off : Nat) : apart Tryd.prog 77 cs off = cs[off]? := apart_cell ag77 kn77 cs off
theorem so77 (H : Hp) (b off : Nat) (x : Value) : astore Tryd.prog 77 (.pointer (some ⟨b, off, none⟩)) x H = match H.get b with | .cells true e c => (if x.cells.size = 1 ∧ isTup x = false ∧ off + 1 ≤ c.length then some (H.put b (.cells true e (setAll c off x.cells.toList))) else none) | _ => none := astore_sz sz77 b off x
theorem al77 (X : Outer) (ops : Array Oper) (dd : Option Tmp) (ty : TypeId) (pos : String) (af : Array Edge) (e : Env) (H : Hp) (K : Value → Hp → Prop) : Step Tryd.prog X ops ⟨dd, .alloc 77, ty, pos, af, none⟩ e H K = K (.pointer (some ⟨H.next, 0, none⟩)) (H.push (.cells true 77 [.nilFunc])) := Step_alloc zt77 rfl
theorem ld78 (H : Hp) (a : Addr) : aload Tryd.prog 78 (.pointer (some a)) H = (cellsAt H a 20).map fun c => .agg c.toArray := aload_agg ag78 sz78 a
theorem ap78 (cs : Array Value) (off : Nat) : apart Tryd.prog 78 cs off = if off + 20 ≤ cs.size then some (.agg (cs.extract off (off + 20))) else none := apart_agg ag78 sz78 cs off
theorem so78 (H : Hp) (b off : Nat) (x : Value) : astore Tryd.prog 78 (.pointer (some ⟨b, off, none⟩)) x H = match H.get b with | .cells true e c => (if x.cells.size = 20 ∧ isTup x = false ∧ off + 20 ≤ c.length then some (H.put b (.cells true e (setAll c off x.cells.toList))) else none) | _ => none := astore_sz sz78 b off x
theorem al78 (X : Outer) (ops : Array Oper) (dd : Option Tmp) (ty : TypeId) (pos : String) (af : Array Edge) (e : Env) (H : Hp) (K : Value → Hp → Prop) : Step Tryd.prog X ops ⟨dd, .alloc 78, ty, pos, af, none⟩ e H K = K (.pointer (some ⟨H.next, 0, none⟩)) (H.push (.cells true 78 [.int .u64 0, .int .u64 0, .int .u64 0, .int .u64 0, .int .u64 0, .int .u64 0, .int .u64 0, .int .u64 0, .int .u64 0, .int .u64 0, .int .u64 0, .int .u64 0, .int .u64 0, .int .u64 0, .int .u64 0, .int .u64 0, .int .u64 0, .int .u64 0, .int .u64 0, .int .u64 0])) := Step_alloc zt78 rfl
theorem ld79 (H : Hp) (a : Addr) : aload Tryd.prog 79 (.pointer (some a)) H = cellAt H a := aload_cell ag79 kn79 a
theorem ap79 (cs : Array Value) (off : Nat) : apart Tryd.prog 79 cs off = cs[off]? := apart_cell ag79 kn79 cs off
theorem so79 (H : Hp) (b off : Nat) (x : Value) : astore Tryd.prog 79 (.pointer (some ⟨b, off, none⟩)) x H = match H.get b with | .cells true e c => (if x.cells.size = 1 ∧ isTup x = false ∧ off + 1 ≤ c.length then some (H.put b (.cells true e (setAll c off x.cells.toList))) else none) | _ => none := astore_sz sz79 b off x
theorem al79 (X : Outer) (ops : Array Oper) (dd : Option Tmp) (ty : TypeId) (pos : String) (af : Array Edge) (e : Env) (H : Hp) (K : Value → Hp → Prop) : Step Tryd.prog X ops ⟨dd, .alloc 79, ty, pos, af, none⟩ e H K = K (.pointer (some ⟨H.next, 0, none⟩)) (H.push (.cells true 79 [.int .u32 0])) := Step_alloc zt79 rfl
theorem ld80 (H : Hp) (a : Addr) : aload Tryd.prog 80 (.pointer (some a)) H = (cellsAt H a 65).map fun c => .agg c.toArray := aload_agg ag80 sz80 a
theorem ap80 (cs : Array Value) (off : Nat) : apart Tryd.prog 80 cs off = if off + 65 ≤ cs.size then some (.agg (cs.extract off (off + 65))) else none := apart_agg ag80 sz80 cs off
theorem so80 (H : Hp) (b off : Nat) (x : Value) : astore Tryd.prog 80 (.pointer (some ⟨b, off, none⟩)) x H = match H.get b with | .cells true e c => (if x.cells.size = 65 ∧ isTup x = false ∧ off + 65 ≤ c.length then some (H.put b (.cells true e (setAll c off x.cells.toList))) else none) | _ => none := astore_sz sz80 b off x
theorem al80 (X : Outer) (ops : Array Oper) (dd : Option Tmp) (ty : TypeId) (pos : String) (af : Array Edge) (e : Env) (H : Hp) (K : Value → Hp → Prop) : Step Tryd.prog X ops ⟨dd, .alloc 80, ty, pos, af, none⟩ e H K = K (.pointer (some ⟨H.next, 0, none⟩)) (H.push (.cells true 80 [.int .u8 0, .int .u8 0, .int .u8 0, .int .u8 0, .int .u8 0, .int .u8 0, .int .u8 0, .int .u8 0, .int .u8 0, .int .u8 0, .int .u8 0, .int .u8 0, .int .u8 0, .int .u8 0, .int .u8 0, .int .u8 0, .int .u8 0, .int .u8 0, .int .u8 0, .int .u8 0, .int .u8 0, .int .u8 0, .int .u8 0, .int .u8 0, .int .u8 0, .int .u8 0, .int .u8 0, .int .u8 0, .int .u8 0, .int .u8 0, .int .u8 0, .int .u8 0, .int .u8 0, .int .u8 0, .int .u8 0, .int .u8 0, .int .u8 0, .int .u8 0, .int .u8 0, .int .u8 0, .int .u8 0, .int .u8 0, .int .u8 0, .int .u8 0, .int .u8 0, .int .u8 0, .int .u8 0, .int .u8 0, .int .u8 0, .int .u8 0, .int .u8 0, .int .u8 0, .int .u8 0, .int .u8 0, .int .u8 0, .int .u8 0, .int .u8 0, .int .u8 0, .int .u8 0, .int .u8 0, .int .u8 0, .int .u8 0, .int .u8 0, .int .u8 0, .int .u8 0])) := Step_alloc zt80 rfl
theorem ld81 (H : Hp) (a : Addr) : aload Tryd.prog 81 (.pointer (some a)) H = cellAt H a := aload_cell ag81 kn81 a
theorem ap81 (cs : Array Value) (off : Nat) : apart Tryd.prog 81 cs off = cs[off]? := apart_cell ag81 kn81 cs off
theorem so81 (H : Hp) (b off : Nat) (x : Value) : astore Tryd.prog 81 (.pointer (some ⟨b, off, none⟩)) x H = match H.get b with | .cells true e c => (if x.cells.size = 1 ∧ isTup x = false ∧ off + 1 ≤ c.length then some (H.put b (.cells true e (setAll c off x.cells.toList))) else none) | _ => none := astore_sz sz81 b off x
theorem al81 (X : Outer) (ops : Array Oper) (dd : Option Tmp) (ty : TypeId) (pos : String) (af : Array Edge) (e : Env) (H : Hp) (K : Value → Hp → Prop) : Step Tryd.prog X ops ⟨dd, .alloc 81, ty, pos, af, none⟩ e H K = K (.pointer (some ⟨H.next, 0, none⟩)) (H.push (.cells true 81 [.nilFunc])) := Step_alloc zt81 rfl
theorem ld82 (H : Hp) (a : Addr) : aload Tryd.prog 82 (.pointer (some a)) H = cellAt H a := aload_cell ag82 kn82 a
theorem ap82 (cs : Array Value) (off : Nat) : apart Tryd.prog 82 cs off = cs[off]? := apart_cell ag82 kn82 cs off
theorem so82 (H : Hp) (b off : Nat) (x : Value) : astore Tryd.prog 82 (.pointer (some ⟨b, off, none⟩)) x H = match H.get b with | .cells true e c => (if x.cells.size = 1 ∧ isTup x = false ∧ off + 1 ≤ c.length then some (H.put b (.cells true e (setAll c off x.cells.toList))) else none) | _ => none := astore_sz sz82 b off x
theorem al82 (X : Outer) (ops : Array Oper) (dd : Option Tmp) (ty : TypeId) (pos : String) (af : Array Edge) (e : Env) (H : Hp) (K : Value → Hp → Prop) : Step Tryd.prog X ops ⟨dd, .alloc 82, ty, pos, af, none⟩ e H K = K (.pointer (some ⟨H.next, 0, none⟩)) (H.push (.cells true 82 [.nilFunc])) := Step_alloc zt82 rfl
theorem ld83 (H : Hp) (a : Addr) : aload Tryd.prog 83 (.pointer (some a)) H = (cellsAt H a 32).map fun c => .agg c.toArray := aload_agg ag83 sz83 a
theorem ap83 (cs : Array Value) (off : Nat) : apart Tryd.prog 83 cs off = if off + 32 ≤ cs.size then some (.agg (cs.extract off (off + 32))) else none := apart_agg ag83 sz83 cs off
theorem so83 (H : Hp) (b off : Nat) (x : Value) : astore Tryd.prog 83 (.pointer (some ⟨b, off, none⟩)) x H = match H.get b with | .cells true e c => (if x.cells.size = 32 ∧ isTup x = false ∧ off + 32 ≤ c.length then some (H.put b (.cells true e (setAll c off x.cells.toList))) else none) | _ => none := astore_sz sz83 b off x
theorem al83 (X : Outer) (ops : Array Oper) (dd : Option Tmp) (ty : TypeId) (pos : String) (af : Array Edge) (e : Env) (H : Hp) (K : Value → Hp → Prop) : Step Tryd.prog X ops ⟨dd, .alloc 83, ty, pos, af, none⟩ e H K = K (.pointer (some ⟨H.next, 0, none⟩)) (H.push (.cells true 83 [.int .u8 0, .int .u8 0, .int .u8 0, .int .u8 0, .int .u8 0, .int .u8 0, .int .u8 0, .int .u8 0, .int .u8 0, .int .u8 0, .int .u8 0, .int .u8 0, .int .u8 0, .int .u8 0, .int .u8 0, .int .u8 0, .int .u8 0, .int .u8 0, .int .u8 0, .int .u8 0, .int .u8 0, .int .u8 0, .int .u8 0, .int .u8 0, .int .u8 0, .int .u8 0, .int .u8 0, .int .u8 0, .int .u8 0, .int .u8 0, .int .u8 0, .int .u8 0])) := Step_alloc zt83 rfl
theorem ld84 (H : Hp) (a : Addr) : aload Tryd.prog 84 (.pointer (some a)) H = (cellsAt H a 64).map fun c => .agg c.toArray := aload_agg ag84 sz84 a
theorem ap84 (cs : Array Value) (off : Nat) : apart Tryd.prog 84 cs off = if off + 64 ≤ cs.size then some (.agg (cs.extract off (off + 64))) else none := apart_agg ag84 sz84 cs off
theorem so84 (H : Hp) (b off : Nat) (x : Value) : astore Tryd.prog 84 (.pointer (some ⟨b, off, none⟩)) x H = match H.get b with | .cells true e c => (if x.cells.size = 64 ∧ isTup x = false ∧ off + 64 ≤ c.length then some (H.put b (.cells true e (setAll c off x.cells.toList))) else none) | _ => none := astore_sz sz84 b off x
theorem al84 (X : Outer) (ops : Array Oper) (dd : Option Tmp) (ty : TypeId) (pos : String) (af : Array Edge) (e : Env) (H : Hp) (K : Value → Hp → Prop) : Step Tryd.prog X ops ⟨dd, .alloc 84, ty, pos, af, none⟩ e H K = K (.pointer (some ⟨H.next, 0, none⟩)) (H.push (.cells true 84 [.int .u8 0, .int .u8 0, .int .u8 0, .int .u8 0, .int .u8 0, .int .u8 0, .int .u8 0, .int .u8 0, .int .u8 0, .int .u8 0, .int .u8 0, .int .u8 0, .int .u8 0, .int .u8 0, .int .u8 0, .int .u8 0, .int .u8 0, .int .u8 0, .int .u8 0, .int .u8 0, .int .u8 0, .int .u8 0, .int .u8 0, .int .u8 0, .int .u8 0, .int .u8 0, .int .u8 0, .int .u8 0, .int .u8 0, .int .u8 0, .int .u8 0, .int .u8 0, .int .u8 0, .int .u8 0, .int .u8 0, .int .u8 0, .int .u8 0, .int .u8 0, .int .u8 0, .int .u8 0, .int .u8 0, .int .u8 0, .int .u8 0, .int .u8 0, .int .u8 0, .int .u8 0, .int .u8 0, .int .u8 0, .int .u8 0, .int .u8 0, .int .u8 0, .int .u8 0, .int .u8 0, .int .u8 0, .int .u8 0, .int .u8 0, .int .u8 0, .int .u8 0, .int .u8 0, .int .u8 0, .int .u8 0, .int .u8 0, .int .u8 0, .int .u8 0])) := Step_alloc zt84 rfl
theorem ld85 (H : Hp) (a : Addr) : aload Tryd.prog 85 (.pointer (some a)) H = cellAt H a := aload_cell ag85 kn85 a
theorem ap85 (cs : Array Value) (off : Nat) : apart Tryd.prog 85 cs off = cs[off]? := apart_cell ag85 kn85 cs off
theorem so85 (H : Hp) (b off : Nat) (x : Value) : astore Tryd.prog 85 (.pointer (some ⟨b, off, none⟩)) x H = match H.get b with | .cells true e c => (if x.cells.size = 1 ∧ isTup x = false ∧ off + 1 ≤ c.length then some (H.put b (.cells true e (setAll c off x.cells.toList))) else none) | _ => none := astore_sz sz85 b off x
theorem al85 (X : Outer) (ops : Array Oper) (dd : Option Tmp) (ty : TypeId) (pos : String) (af : Array Edge) (e : Env) (H : Hp) (K : Value → Hp → Prop) : Step Tryd.prog X ops ⟨dd, .alloc 85, ty, pos, af, none⟩ e H K = K (.pointer (some ⟨H.next, 0, none⟩)) (H.push (.cells true 85 [.nilFunc])) := Step_alloc zt85 rfl
theorem ld86 (H : Hp) (a : Addr) : aload Tryd.prog 86 (.pointer (some a)) H = (cellsAt H a 4).map fun c => .agg c.toArray := aload_agg ag86 sz86 a
theorem ap86 (cs : Array Value) (off : Nat) : apart Tryd.prog 86 cs off = if off + 4 ≤ cs.size then some (.agg (cs.extract off (off + 4))) else none := apart_agg ag86 sz86 cs off
theorem so86 (H : Hp) (b off : Nat) (x : Value) : astore Tryd.prog 86 (.pointer (some ⟨b, off, none⟩)) x H = match H.get b with | .cells true e c => (if x.cells.size = 4 ∧ isTup x = false ∧ off + 4 ≤ c.length then some (H.put b (.cells true e (setAll c off x.cells.toList))) else none) | _ => none := astore_sz sz86 b off x
theorem al86 (X : Outer) (ops : Array Oper) (dd : Option Tmp) (ty : TypeId) (pos : String) (af : Array Edge) (e : Env) (H : Hp) (K : Value → Hp → Prop) : Step Tryd.prog X ops ⟨dd, .alloc 86, ty, pos, af, none⟩ e H K = K (.pointer (some ⟨H.next, 0, none⟩)) (H.push (.cells true 86 [.pointer none, .pointer none, .pointer none, .string .empty])) := Step_alloc zt86 rfl
theorem fa86_0 (ρ : Operand → Value) (H : Hp) (x : Operand) : lop Tryd.prog ρ H (.fieldAddr 86 x 0) = match ρ x with | .pointer (some a) => (if a.spot = none then some (.pointer (some ⟨a.block, a.off + 0, none⟩)) else none) | _ => none := lop_fieldAddr x 0 0 1 pl86_0 (by decide)
theorem fd86_0 (ρ : Operand → Value) (H : Hp) (x : Operand) : lop Tryd.prog ρ H (.field 86 x 0) = match ρ x with | .agg cs => apart Tryd.prog 17 cs 0 | _ => none := lop_field x 0 0 1 17 pl86_0 ft86_0
theorem fa86_1 (ρ : Operand → Value) (H : Hp) (x : Operand) : lop Tryd.prog ρ H (.fieldAddr 86 x 1) = match ρ x with | .pointer (some a) => (if a.spot = none then some (.pointer (some ⟨a.block, a.off + 1, none⟩)) else none) | _ => none := lop_fieldAddr x 1 1 1 pl86_1 (by decide)
theorem fd86_1 (ρ : Operand → Value) (H : Hp) (x : Operand) : lop Tryd.prog ρ H (.field 86 x 1) = match ρ x with | .agg cs => apart Tryd.prog 17 cs 1 | _ => none := lop_field x 1 1 1 17 pl86_1 ft86_1
theorem fa86_2 (ρ : Operand → Value) (H : Hp) (x : Operand) : lop Tryd.prog ρ H (.fieldAddr 86 x 2) = match ρ x with | .pointer (some a) => (if a.spot = none then some (.pointer (some ⟨a.block, a.off + 2, none⟩)) else none) | _ => none := lop_fieldAddr x 2 2 1 pl86_2 (by decide)
theorem fd86_2 (ρ : Operand → Value) (H : Hp) (x : Operand) : lop Tryd.prog ρ H (.field 86 x 2) = match ρ x with | .agg cs => apart Tryd.prog 17 cs 2 | _ => none := lop_field x 2 2 1 17 pl86_2 ft86_2
theorem fa86_3 (ρ : Operand → Value) (H : Hp) (x : Operand) : lop Tryd.prog ρ H (.fieldAddr 86 x 3) = match ρ x with | .pointer (some a) => (if a.spot = none then some (.pointer (some ⟨a.block, a.off + 3, none⟩)) else none) | _ => none := lop_fieldAddr x 3 3 1 pl86_3 (by decide)
theorem fd86_3 (ρ : Operand → Value) (H : Hp) (x : Operand) : lop Tryd.prog ρ H (.field 86 x 3) = match ρ x with | .agg cs => apart Tryd.prog 9 cs 3 | _ => none := lop_field x 3 3 1 9 pl86_3 ft86_3
theorem bd86 (ρ : Operand → Value) (H : Hp) (parts : Array (Nat × Operand)) : lop Tryd.prog ρ H (.build 86 parts) = if parts.toList.all (fun p => !isTup (ρ p.2)) then (afill (place Tryd.prog 86) (Value.cells (.agg #[.pointer none, .pointer none, .pointer none, .string .empty])).toList (parts.toList.map fun p => (p.1, ρ p.2))).map fun cs => .agg cs.toArray else none := lop_build parts _ zt86 sd86 rfl
theorem ld87 (H : Hp) (a : Addr) : aload Tryd.prog 87 (.pointer (some a)) H = (cellsAt H a 4).map fun c => .agg c.toArray := aload_agg ag87 sz87 a
theorem ap87 (cs : Array Value) (off : Nat) : apart Tryd.prog 87 cs off = if off + 4 ≤ cs.size then some (.agg (cs.extract off (off + 4))) else none := apart_agg ag87 sz87 cs off
theorem so87 (H : Hp) (b off : Nat) (x : Value) : astore Tryd.prog 87 (.pointer (some ⟨b, off, none⟩)) x H = match H.get b with | .cells true e c => (if x.cells.size = 4 ∧ isTup x = false ∧ off + 4 ≤ c.length then some (H.put b (.cells true e (setAll c off x.cells.toList))) else none) | _ => none := astore_sz sz87 b off x
theorem al87 (X : Outer) (ops : Array Oper) (dd : Option Tmp) (ty : TypeId) (pos : String) (af : Array Edge) (e : Env) (H : Hp) (K : Value → Hp → Prop) : Step Tryd.prog X ops ⟨dd, .alloc 87, ty, pos, af, none⟩ e H K = K (.pointer (some ⟨H.next, 0, none⟩)) (H.push (.cells true 87 [.pointer none, .pointer none, .pointer none, .string .empty])) := Step_alloc zt87 rfl
theorem fa87_0 (ρ : Operand → Value) (H : Hp) (x : Operand) : lop Tryd.prog ρ H (.fieldAddr 87 x 0) = match ρ x with | .pointer (some a) => (if a.spot = none then some (.pointer (some ⟨a.block, a.off + 0, none⟩)) else none) | _ => none := lop_fieldAddr x 0 0 1 pl87_0 (by decide)
theorem fd87_0 (ρ : Operand → Value) (H : Hp) (x : Operand) : lop Tryd.prog ρ H (.field 87 x 0) = match ρ x with | .agg cs => apart Tryd.prog 17 cs 0 | _ => none := lop_field x 0 0 1 17 pl87_0 ft87_0
theorem fa87_1 (ρ : Operand → Value) (H : Hp) (x : Operand) : lop Tryd.prog ρ H (.fieldAddr 87 x 1) = match ρ x with | .pointer (some a) => (if a.spot = none then some (.pointer (some ⟨a.block, a.off + 1, none⟩)) else none) | _ => none := lop_fieldAddr x 1 1 1 pl87_1 (by decide)
theorem fd87_1 (ρ : Operand → Value) (H : Hp) (x : Operand) : lop Tryd.prog ρ H (.field 87 x 1) = match ρ x with | .agg cs => apart Tryd.prog 17 cs 1 | _ => none := lop_field x 1 1 1 17 pl87_1 ft87_1
theorem fa87_2 (ρ : Operand → Value) (H : Hp) (x : Operand) : lop Tryd.prog ρ H (.fieldAddr 87 x 2) = match ρ x with | .pointer (some a) => (if a.spot = none then some (.pointer (some ⟨a.block, a.off + 2, none⟩)) else none) | _ => none := lop_fieldAddr x 2 2 1 pl87_2 (by decide)
theorem fd87_2 (ρ : Operand → Value) (H : Hp) (x : Operand) : lop Tryd.prog ρ H (.field 87 x 2) = match ρ x with | .agg cs => apart Tryd.prog 17 cs 2 | _ => none := lop_field x 2 2 1 17 pl87_2 ft87_2
theorem fa87_3 (ρ : Operand → Value) (H : Hp) (x : Operand) : lop Tryd.prog ρ H (.fieldAddr 87 x 3) = match ρ x with | .pointer (some a) => (if a.spot = none then some (.pointer (some ⟨a.block, a.off + 3, none⟩)) else none) | _ => none := lop_fieldAddr x 3 3 1 pl87_3 (by decide)
theorem fd87_3 (ρ : Operand → Value) (H : Hp) (x : Operand) : lop Tryd.prog ρ H (.field 87 x 3) = match ρ x with | .agg cs => apart Tryd.prog 9 cs 3 | _ => none := lop_field x 3 3 1 9 pl87_3 ft87_3
theorem bd87 (ρ : Operand → Value) (H : Hp) (parts : Array (Nat × Operand)) : lop Tryd.prog ρ H (.build 87 parts) = if parts.toList.all (fun p => !isTup (ρ p.2)) then (afill (place Tryd.prog 87) (Value.cells (.agg #[.pointer none, .pointer none, .pointer none, .string .empty])).toList (parts.toList.map fun p => (p.1, ρ p.2))).map fun cs => .agg cs.toArray else none := lop_build parts _ zt87 sd87 rfl
theorem ld88 (H : Hp) (a : Addr) : aload Tryd.prog 88 (.pointer (some a)) H = (cellsAt H a 0).map fun c => .agg c.toArray := aload_agg ag88 sz88 a
theorem ap88 (cs : Array Value) (off : Nat) : apart Tryd.prog 88 cs off = if off + 0 ≤ cs.size then some (.agg (cs.extract off (off + 0))) else none := apart_agg ag88 sz88 cs off
theorem so88 (H : Hp) (b off : Nat) (x : Value) : astore Tryd.prog 88 (.pointer (some ⟨b, off, none⟩)) x H = match H.get b with | .cells true e c => (if x.cells.size = 0 ∧ isTup x = false ∧ off + 0 ≤ c.length then some (H.put b (.cells true e (setAll c off x.cells.toList))) else none) | _ => none := astore_sz sz88 b off x
theorem al88 (X : Outer) (ops : Array Oper) (dd : Option Tmp) (ty : TypeId) (pos : String) (af : Array Edge) (e : Env) (H : Hp) (K : Value → Hp → Prop) : Step Tryd.prog X ops ⟨dd, .alloc 88, ty, pos, af, none⟩ e H K = K (.pointer (some ⟨H.next, 0, none⟩)) (H.push (.cells true 88 [])) := Step_alloc zt88 rfl
theorem ld89 (H : Hp) (a : Addr) : aload Tryd.prog 89 (.pointer (some a)) H = (cellsAt H a 0).map fun c => .agg c.toArray := aload_agg ag89 sz89 a
theorem ap89 (cs : Array Value) (off : Nat) : apart Tryd.prog 89 cs off = if off + 0 ≤ cs.size then some (.agg (cs.extract off (off + 0))) else none := apart_agg ag89 sz89 cs off
theorem so89 (H : Hp) (b off : Nat) (x : Value) : astore Tryd.prog 89 (.pointer (some ⟨b, off, none⟩)) x H = match H.get b with | .cells true e c => (if x.cells.size = 0 ∧ isTup x = false ∧ off + 0 ≤ c.length then some (H.put b (.cells true e (setAll c off x.cells.toList))) else none) | _ => none := astore_sz sz89 b off x
theorem al89 (X : Outer) (ops : Array Oper) (dd : Option Tmp) (ty : TypeId) (pos : String) (af : Array Edge) (e : Env) (H : Hp) (K : Value → Hp → Prop) : Step Tryd.prog X ops ⟨dd, .alloc 89, ty, pos, af, none⟩ e H K = K (.pointer (some ⟨H.next, 0, none⟩)) (H.push (.cells true 89 [])) := Step_alloc zt89 rfl
theorem fd89_0 (ρ : Operand → Value) (H : Hp) (x : Operand) : lop Tryd.prog ρ H (.field 89 x 0) = match ρ x with | .agg cs => apart Tryd.prog 88 cs 0 | _ => none := lop_field x 0 0 0 88 pl89_0 ft89_0
theorem bd89 (ρ : Operand → Value) (H : Hp) (parts : Array (Nat × Operand)) : lop Tryd.prog ρ H (.build 89 parts) = if parts.toList.all (fun p => !isTup (ρ p.2)) then (afill (place Tryd.prog 89) (Value.cells (.agg #[])).toList (parts.toList.map fun p => (p.1, ρ p.2))).map fun cs => .agg cs.toArray else none := lop_build parts _ zt89 sd89 rfl
theorem ld90 (H : Hp) (a : Addr) : aload Tryd.prog 90 (.pointer (some a)) H = (cellsAt H a 0).map fun c => .agg c.toArray := aload_agg ag90 sz90 a
theorem ap90 (cs : Array Value) (off : Nat) : apart Tryd.prog 90 cs off = if off + 0 ≤ cs.size then some (.agg (cs.extract off (off + 0))) else none := apart_agg ag90 sz90 cs off
theorem so90 (H : Hp) (b off : Nat) (x : Value) : astore Tryd.prog 90 (.pointer (some ⟨b, off, none⟩)) x H = match H.get b with | .cells true e c => (if x.cells.size = 0 ∧ isTup x = false ∧ off + 0 ≤ c.length then some (H.put b (.cells true e (setAll c off x.cells.toList))) else none) | _ => none := astore_sz sz90 b off x
theorem al90 (X : Outer) (ops : Array Oper) (dd : Option Tmp) (ty : TypeId) (pos : String) (af : Array Edge) (e : Env) (H : Hp) (K : Value → Hp → Prop) : Step Tryd.prog X ops ⟨dd, .alloc 90, ty, pos, af, none⟩ e H K = K (.pointer (some ⟨H.next, 0, none⟩)) (H.push (.cells true 90 [])) := Step_alloc zt90 rfl
theorem fd90_0 (ρ : Operand → Value) (H : Hp) (x : Operand) : lop Tryd.prog ρ H (.field 90 x 0) = match ρ x with | .agg cs => apart Tryd.prog 88 cs 0 | _ => none := lop_field x 0 0 0 88 pl90_0 ft90_0
theorem bd90 (ρ : Operand → Value) (H : Hp) (parts : Array (Nat × Operand)) : lop Tryd.prog ρ H (.build 90 parts) = if parts.toList.all (fun p => !isTup (ρ p.2)) then (afill (place Tryd.prog 90) (Value.cells (.agg #[])).toList (parts.toList.map fun p => (p.1, ρ p.2))).map fun cs => .agg cs.toArray else none := lop_build parts _ zt90 sd90 rfl
theorem ld91 (H : Hp) (a : Addr) : aload Tryd.prog 91 (.pointer (some a)) H = cellAt H a := aload_cell ag91 kn91 a
theorem ap91 (cs : Array Value) (off : Nat) : apart Tryd.prog 91 cs off = cs[off]? := apart_cell ag91 kn91 cs off
theorem so91 (H : Hp) (b off : Nat) (x : Value) : astore Tryd.prog 91 (.pointer (some ⟨b, off, none⟩)) x H = match H.get b with | .cells true e c => (if x.cells.size = 1 ∧ isTup x = false ∧ off + 1 ≤ c.length then some (H.put b (.cells true e (setAll c off x.cells.toList))) else none) | _ => none := astore_sz sz91 b off x
theorem al91 (X : Outer) (ops : Array Oper) (dd : Option Tmp) (ty : TypeId) (pos : String) (af : Array Edge) (e : Env) (H : Hp) (K : Value → Hp → Prop) : Step Tryd.prog X ops ⟨dd, .alloc 91, ty, pos, af, none⟩ e H K = K (.pointer (some ⟨H.next, 0, none⟩)) (H.push (.cells true 91 [.nilFunc])) := Step_alloc zt91 rfl
theorem ld92 (H : Hp) (a : Addr) : aload Tryd.prog 92 (.pointer (some a)) H = cellAt H a := aload_cell ag92 kn92 a
theorem ap92 (cs : Array Value) (off : Nat) : apart Tryd.prog 92 cs off = cs[off]? := apart_cell ag92 kn92 cs off
theorem so92 (H : Hp) (b off : Nat) (x : Value) : astore Tryd.prog 92 (.pointer (some ⟨b, off, none⟩)) x H = match H.get b with | .cells true e c => (if x.cells.size = 1 ∧ isTup x = false ∧ off + 1 ≤ c.length then some (H.put b (.cells true e (setAll c off x.cells.toList))) else none) | _ => none := astore_sz sz92 b off x
theorem al92 (X : Outer) (ops : Array Oper) (dd : Option Tmp) (ty : TypeId) (pos : String) (af : Array Edge) (e : Env) (H : Hp) (K : Value → Hp → Prop) : Step Tryd.prog X ops ⟨dd, .alloc 92, ty, pos, af, none⟩ e H K = K (.pointer (some ⟨H.next, 0, none⟩)) (H.push (.cells true 92 [.int .u8 0])) := Step_alloc zt92 rfl
theorem ld93 (H : Hp) (a : Addr) : aload Tryd.prog 93 (.pointer (some a)) H = cellAt H a := aload_cell ag93 kn93 a
theorem ap93 (cs : Array Value) (off : Nat) : apart Tryd.prog 93 cs off = cs[off]? := apart_cell ag93 kn93 cs off
theorem so93 (H : Hp) (b off : Nat) (x : Value) : astore Tryd.prog 93 (.pointer (some ⟨b, off, none⟩)) x H = match H.get b with | .cells true e c => (if x.cells.size = 1 ∧ isTup x = false ∧ off + 1 ≤ c.length then some (H.put b (.cells true e (setAll c off x.cells.toList))) else none) | _ => none := astore_sz sz93 b off x
theorem al93 (X : Outer) (ops : Array Oper) (dd : Option Tmp) (ty : TypeId) (pos : String) (af : Array Edge) (e : Env) (H : Hp) (K : Value → Hp → Prop) : Step Tryd.prog X ops ⟨dd, .alloc 93, ty, pos, af, none⟩ e H K = K (.pointer (some ⟨H.next, 0, none⟩)) (H.push (.cells true 93 [.int .u8 0])) := Step_alloc zt93 rfl
theorem ld94 (H : Hp) (a : Addr) : aload Tryd.prog 94 (.pointer (some a)) H = cellAt H a := aload_cell ag94 kn94 a
theorem ap94 (cs : Array Value) (off : Nat) : apart Tryd.prog 94 cs off = cs[off]? := apart_cell ag94 kn94 cs off
theorem so94 (H : Hp) (b off : Nat) (x : Value) : astore Tryd.prog 94 (.pointer (some ⟨b, off, none⟩)) x H = match H.get b with | .cells true e c => (if x.cells.size = 1 ∧ isTup x = false ∧ off + 1 ≤ c.length then some (H.put b (.cells true e (setAll c off x.cells.toList))) else none) | _ => none := astore_sz sz94 b off x
theorem al94 (X : Outer) (ops : Array Oper) (dd : Option Tmp) (ty : TypeId) (pos : String) (af : Array Edge) (e : Env) (H : Hp) (K : Value → Hp → Prop) : Step Tryd.prog X ops ⟨dd, .alloc 94, ty, pos, af, none⟩ e H K = K (.pointer (some ⟨H.next, 0, none⟩)) (H.push (.cells true 94 [.nilFunc])) := Step_alloc zt94 rfl
theorem ld95 (H : Hp) (a : Addr) : aload Tryd.prog 95 (.pointer (some a)) H = cellAt H a := aload_cell ag95 kn95 a
theorem ap95 (cs : Array Value) (off : Nat) : apart Tryd.prog 95 cs off = cs[off]? := apart_cell ag95 kn95 cs off
theorem so95 (H : Hp) (b off : Nat) (x : Value) : astore Tryd.prog 95 (.pointer (some ⟨b, off, none⟩)) x H = match H.get b with | .cells true e c => (if x.cells.size = 1 ∧ isTup x = false ∧ off + 1 ≤ c.length then some (H.put b (.cells true e (setAll c off x.cells.toList))) else none) | _ => none := astore_sz sz95 b off x
theorem al95 (X : Outer) (ops : Array Oper) (dd : Option Tmp) (ty : TypeId) (pos : String) (af : Array Edge) (e : Env) (H : Hp) (K : Value → Hp → Prop) : Step Tryd.prog X ops ⟨dd, .alloc 95, ty, pos, af, none⟩ e H K = K (.pointer (some ⟨H.next, 0, none⟩)) (H.push (.cells true 95 [.pointer none])) := Step_alloc zt95 rfl
theorem ld96 (H : Hp) (a : Addr) : aload Tryd.prog 96 (.pointer (some a)) H = cellAt H a := aload_cell ag96 kn96 a
theorem ap96 (cs : Array Value) (off : Nat) : apart Tryd.prog 96 cs off = cs[off]? := apart_cell ag96 kn96 cs off
theorem so96 (H : Hp) (b off : Nat) (x : Value) : astore Tryd.prog 96 (.pointer (some ⟨b, off, none⟩)) x H = match H.get b with | .cells true e c => (if x.cells.size = 1 ∧ isTup x = false ∧ off + 1 ≤ c.length then some (H.put b (.cells true e (setAll c off x.cells.toList))) else none) | _ => none := astore_sz sz96 b off x
theorem al96 (X : Outer) (ops : Array Oper) (dd : Option Tmp) (ty : TypeId) (pos : String) (af : Array Edge) (e : Env) (H : Hp) (K : Value → Hp → Prop) : Step Tryd.prog X ops ⟨dd, .alloc 96, ty, pos, af, none⟩ e H K = K (.pointer (some ⟨H.next, 0, none⟩)) (H.push (.cells true 96 [.int .i32 0])) := Step_alloc zt96 rfl
theorem ld97 (H : Hp) (a : Addr) : aload Tryd.prog 97 (.pointer (some a)) H = cellAt H a := aload_cell ag97 kn97 a
theorem ap97 (cs : Array Value) (off : Nat) : apart Tryd.prog 97 cs off = cs[off]? := apart_cell ag97 kn97 cs off
theorem so97 (H : Hp) (b off : Nat) (x : Value) : astore Tryd.prog 97 (.pointer (some ⟨b, off, none⟩)) x H = match H.get b with | .cells true e c => (if x.cells.size = 1 ∧ isTup x = false ∧ off + 1 ≤ c.length then some (H.put b (.cells true e (setAll c off x.cells.toList))) else none) | _ => none := astore_sz sz97 b off x
theorem al97 (X : Outer) (ops : Array Oper) (dd : Option Tmp) (ty : TypeId) (pos : String) (af : Array Edge) (e : Env) (H : Hp) (K : Value → Hp → Prop) : Step Tryd.prog X ops ⟨dd, .alloc 97, ty, pos, af, none⟩ e H K = K (.pointer (some ⟨H.next, 0, none⟩)) (H.push (.cells true 97 [.int .i32 0])) := Step_alloc zt97 rfl
theorem ld98 (H : Hp) (a : Addr) : aload Tryd.prog 98 (.pointer (some a)) H = (cellsAt H a 11).map fun c => .agg c.toArray := aload_agg ag98 sz98 a
theorem ap98 (cs : Array Value) (off : Nat) : apart Tryd.prog 98 cs off = if off + 11 ≤ cs.size then some (.agg (cs.extract off (off + 11))) else none := apart_agg ag98 sz98 cs off
theorem so98 (H : Hp) (b off : Nat) (x : Value) : astore Tryd.prog 98 (.pointer (some ⟨b, off, none⟩)) x H = match H.get b with | .cells true e c => (if x.cells.size = 11 ∧ isTup x = false ∧ off + 11 ≤ c.length then some (H.put b (.cells true e (setAll c off x.cells.toList))) else none) | _ => none := astore_sz sz98 b off x
theorem al98 (X : Outer) (ops : Array Oper) (dd : Option Tmp) (ty : TypeId) (pos : String) (af : Array Edge) (e : Env) (H : Hp) (K : Value → Hp → Prop) : Step Tryd.prog X ops ⟨dd, .alloc 98, ty, pos, af, none⟩ e H K = K (.pointer (some ⟨H.next, 0, none⟩)) (H.push (.cells true 98 [.int .u64 0, .int .u64 0, .int .u32 0, .int .u8 0, .int .u8 0, .int .u8 0, .int .u8 0, .nilFunc, .pointer none, .int .i32 0, .int .i32 0])) := Step_alloc zt98 rfl
theorem fa98_0 (ρ : Operand → Value) (H : Hp) (x : Operand) : lop Tryd.prog ρ H (.fieldAddr 98 x 0) = match ρ x with | .pointer (some a) => (if a.spot = none then some (.pointer (some ⟨a.block, a.off + 0, none⟩)) else none) | _ => none := lop_fieldAddr x 0 0 1 pl98_0 (by decide)
theorem fd98_0 (ρ : Operand → Value) (H : Hp) (x : Operand) : lop Tryd.prog ρ H (.field 98 x 0) = match ρ x with | .agg cs => apart Tryd.prog 12 cs 0 | _ => none := lop_field x 0 0 1 12 pl98_0 ft98_0
theorem fa98_1 (ρ : Operand → Value) (H : Hp) (x : Operand) : lop Tryd.prog ρ H (.fieldAddr 98 x 1) = match ρ x with | .pointer (some a) => (if a.spot = none then some (.pointer (some ⟨a.block, a.off + 1, none⟩)) else none) | _ => none := lop_fieldAddr x 1 1 1 pl98_1 (by decide)
theorem fd98_1 (ρ : Operand → Value) (H : Hp) (x : Operand) : lop Tryd.prog ρ H (.field 98 x 1) = match ρ x with | .agg cs => apart Tryd.prog 12 cs 1 | _ => none := lop_field x 1 1 1 12 pl98_1 ft98_1
theorem fa98_2 (ρ : Operand → Value) (H : Hp) (x : Operand) : lop Tryd.prog ρ H (.fieldAddr 98 x 2) = match ρ x with | .pointer (some a) => (if a.spot = none then some (.pointer (some ⟨a.block, a.off + 2, none⟩)) else none) | _ => none := lop_fieldAddr x 2 2 1 pl98_2 (by decide)
theorem fd98_2 (ρ : Operand → Value) (H : Hp) (x : Operand) : lop Tryd.prog ρ H (.field 98 x 2) = match ρ x with | .agg cs => apart Tryd.prog 79 cs 2 | _ => none := lop_field x 2 2 1 79 pl98_2 ft98_2
theorem fa98_3 (ρ : Operand → Value) (H : Hp) (x : Operand) : lop Tryd.prog ρ H (.fieldAddr 98 x 3) = match ρ x with | .pointer (some a) => (if a.spot = none then some (.pointer (some ⟨a.block, a.off + 3, none⟩)) else none) | _ => none := lop_fieldAddr x 3 3 1 pl98_3 (by decide)
theorem fd98_3 (ρ : Operand → Value) (H : Hp) (x : Operand) : lop Tryd.prog ρ H (.field 98 x 3) = match ρ x with | .agg cs => apart Tryd.prog 92 cs 3 | _ => none := lop_field x 3 3 1 92 pl98_3 ft98_3
theorem fa98_4 (ρ : Operand → Value) (H : Hp) (x : Operand) : lop Tryd.prog ρ H (.fieldAddr 98 x 4) = match ρ x with | .pointer (some a) => (if a.spot = none then some (.pointer (some ⟨a.block, a.off + 4, none⟩)) else none) | _ => none := lop_fieldAddr x 4 4 1 pl98_4 (by decide)
theorem fd98_4 (ρ : Operand → Value) (H : Hp) (x : Operand) : lop Tryd.prog ρ H (.field 98 x 4) = match ρ x with | .agg cs => apart Tryd.prog 5 cs 4 | _ => none := lop_field x 4 4 1 5 pl98_4 ft98_4
theorem fa98_5 (ρ : Operand → Value) (H : Hp) (x : Operand) : lop Tryd.prog ρ H (.fieldAddr 98 x 5) = match ρ x with | .pointer (some a) => (if a.spot = none then some (.pointer (some ⟨a.block, a.off + 5, none⟩)) else none) | _ => none := lop_fieldAddr x 5 5 1 pl98_5 (by decide)
theorem fd98_5 (ρ : Operand → Value) (H : Hp) (x : Operand) : lop Tryd.prog ρ H (.field 98 x 5) = match ρ x with | .agg cs => apart Tryd.prog 5 cs 5 | _ => none := lop_field x 5 5 1 5 pl98_5 ft98_5
theorem fa98_6 (ρ : Operand → Value) (H : Hp) (x : Operand) : lop Tryd.prog ρ H (.fieldAddr 98 x 6) = match ρ x with | .pointer (some a) => (if a.spot = none then some (.pointer (some ⟨a.block, a.off + 6, none⟩)) else none) | _ => none := lop_fieldAddr x 6 6 1 pl98_6 (by decide)
theorem fd98_6 (ρ : Operand → Value) (H : Hp) (x : Operand) : lop Tryd.prog ρ H (.field 98 x 6) = match ρ x with | .agg cs => apart Tryd.prog 93 cs 6 | _ => none := lop_field x 6 6 1 93 pl98_6 ft98_6
theorem fa98_7 (ρ : Operand → Value) (H : Hp) (x : Operand) : lop Tryd.prog ρ H (.fieldAddr 98 x 7) = match ρ x with | .pointer (some a) => (if a.spot = none then some (.pointer (some ⟨a.block, a.off + 7, none⟩)) else none) | _ => none := lop_fieldAddr x 7 7 1 pl98_7 (by decide)
theorem fd98_7 (ρ : Operand → Value) (H : Hp) (x : Operand) : lop Tryd.prog ρ H (.field 98 x 7) = match ρ x with | .agg cs => apart Tryd.prog 94 cs 7 | _ => none := lop_field x 7 7 1 94 pl98_7 ft98_7
theorem fa98_8 (ρ : Operand → Value) (H : Hp) (x : Operand) : lop Tryd.prog ρ H (.fieldAddr 98 x 8) = match ρ x with | .pointer (some a) => (if a.spot = none then some (.pointer (some ⟨a.block, a.off + 8, none⟩)) else none) | _ => none := lop_fieldAddr x 8 8 1 pl98_8 (by decide)
theorem fd98_8 (ρ : Operand → Value) (H : Hp) (x : Operand) : lop Tryd.prog ρ H (.field 98 x 8) = match ρ x with | .agg cs => apart Tryd.prog 95 cs 8 | _ => none := lop_field x 8 8 1 95 pl98_8 ft98_8
theorem fa98_9 (ρ : Operand → Value) (H : Hp) (x : Operand) : lop Tryd.prog ρ H (.fieldAddr 98 x 9) = match ρ x with | .pointer (some a) => (if a.spot = none then some (.pointer (some ⟨a.block, a.off + 9, none⟩)) else none) | _ => none := lop_fieldAddr x 9 9 1 pl98_9 (by decide)
theorem fd98_9 (ρ : Operand → Value) (H : Hp) (x : Operand) : lop Tryd.prog ρ H (.field 98 x 9) = match ρ x with | .agg cs => apart Tryd.prog 96 cs 9 | _ => none := lop_field x 9 9 1 96 pl98_9 ft98_9
theorem fa98_10 (ρ : Operand → Value) (H : Hp) (x : Operand) : lop Tryd.prog ρ H (.fieldAddr 98 x 10) = match ρ x with | .pointer (some a) => (if a.spot = none then some (.pointer (some ⟨a.block, a.off + 10, none⟩)) else none) | _ => none := lop_fieldAddr x 10 10 1 pl98_10 (by decide)
theorem fd98_10 (ρ : Operand → Value) (H : Hp) (x : Operand) : lop Tryd.prog ρ H (.field 98 x 10) = match ρ x with | .agg cs => apart Tryd.prog 97 cs 10 | _ => none := lop_field x 10 10 1 97 pl98_10 ft98_10
theorem bd98 (ρ : Operand → Value) (H : Hp) (parts : Array (Nat × Operand)) : lop Tryd.prog ρ H (.build 98 parts) = if parts.toList.all (fun p => !isTup (ρ p.2)) then (afill (place Tryd.prog 98) (Value.cells (.agg #[.int .u64 0, .int .u64 0, .int .u32 0, .int .u8 0, .int .u8 0, .int .u8 0, .int .u8 0, .nilFunc, .pointer none, .int .i32 0, .int .i32 0])).toList (parts.toList.map fun p => (p.1, ρ p.2))).map fun cs => .agg cs.toArray else none := lop_build parts _ zt98 sd98 rfl
theorem ld99 (H : Hp) (a : Addr) : aload Tryd.prog 99 (.pointer (some a)) H = (cellsAt H a 11).map fun c => .agg c.toArray := aload_agg ag99 sz99 a
theorem ap99 (cs : Array Value) (off : Nat) : apart Tryd.prog 99 cs off = if off + 11 ≤ cs.size then some (.agg (cs.extract off (off + 11))) else none := apart_agg ag99 sz99 cs off
theorem so99 (H : Hp) (b off : Nat) (x : Value) : astore Tryd.prog 99 (.pointer (some ⟨b, off, none⟩)) x H = match H.get b with | .cells true e c => (if x.cells.size = 11 ∧ isTup x = false ∧ off + 11 ≤ c.length then some (H.put b (.cells true e (setAll c off x.cells.toList))) else none) | _ => none := astore_sz sz99 b off x
theorem al99 (X : Outer) (ops : Array Oper) (dd : Option Tmp) (ty : TypeId) (pos : String) (af : Array Edge) (e : Env) (H : Hp) (K : Value → Hp → Prop) : Step Tryd.prog X ops ⟨dd, .alloc 99, ty, pos, af, none⟩ e H K = K (.pointer (some ⟨H.next, 0, none⟩)) (H.push (.cells true 99 [.int .u64 0, .int .u64 0, .int .u32 0, .int .u8 0, .int .u8 0, .int .u8 0, .int .u8 0, .nilFunc, .pointer none, .int .i32 0, .int .i32 0])) := Step_alloc zt99 rfl
theorem fa99_0 (ρ : Operand → Value) (H : Hp) (x : Operand) : lop Tryd.prog ρ H (.fieldAddr 99 x 0) = match ρ x with | .pointer (some a) => (if a.spot = none then some (.pointer (some ⟨a.block, a.off + 0, none⟩)) else none) | _ => none := lop_fieldAddr x 0 0 1 pl99_0 (by decide)
theorem fd99_0 (ρ : Operand → Value) (H : Hp) (x : Operand) : lop Tryd.prog ρ H (.field 99 x 0) = match ρ x with | .agg cs => apart Tryd.prog 12 cs 0 | _ => none := lop_field x 0 0 1 12 pl99_0 ft99_0
theorem fa99_1 (ρ : Operand → Value) (H : Hp) (x : Operand) : lop Tryd.prog ρ H (.fieldAddr 99 x 1) = match ρ x with | .pointer (some a) => (if a.spot = none then some (.pointer (some ⟨a.block, a.off + 1, none⟩)) else none) | _ => none := lop_fieldAddr x 1 1 1 pl99_1 (by decide)
theorem fd99_1 (ρ : Operand → Value) (H : Hp) (x : Operand) : lop Tryd.prog ρ H (.field 99 x 1) = match ρ x with | .agg cs => apart Tryd.prog 12 cs 1 | _ => none := lop_field x 1 1 1 12 pl99_1 ft99_1
theorem fa99_2 (ρ : Operand → Value) (H : Hp) (x : Operand) : lop Tryd.prog ρ H (.fieldAddr 99 x 2) = match ρ x with | .pointer (some a) => (if a.spot = none then some (.pointer (some ⟨a.block, a.off + 2, none⟩)) else none) | _ => none := lop_fieldAddr x 2 2 1 pl99_2 (by decide)
theorem fd99_2 (ρ : Operand → Value) (H : Hp) (x : Operand) : lop Tryd.prog ρ H (.field 99 x 2) = match ρ x with | .agg cs => apart Tryd.prog 79 cs 2 | _ => none := lop_field x 2 2 1 79 pl99_2 ft99_2
theorem fa99_3 (ρ : Operand → Value) (H : Hp) (x : Operand) : lop Tryd.prog ρ H (.fieldAddr 99 x 3) = match ρ x with | .pointer (some a) => (if a.spot = none then some (.pointer (some ⟨a.block, a.off + 3, none⟩)) else none) | _ => none := lop_fieldAddr x 3 3 1 pl99_3 (by decide)
theorem fd99_3 (ρ : Operand → Value) (H : Hp) (x : Operand) : lop Tryd.prog ρ H (.field 99 x 3) = match ρ x with | .agg cs => apart Tryd.prog 92 cs 3 | _ => none := lop_field x 3 3 1 92 pl99_3 ft99_3
theorem fa99_4 (ρ : Operand → Value) (H : Hp) (x : Operand) : lop Tryd.prog ρ H (.fieldAddr 99 x 4) = match ρ x with | .pointer (some a) => (if a.spot = none then some (.pointer (some ⟨a.block, a.off + 4, none⟩)) else none) | _ => none := lop_fieldAddr x 4 4 1 pl99_4 (by decide)
theorem fd99_4 (ρ : Operand → Value) (H : Hp) (x : Operand) : lop Tryd.prog ρ H (.field 99 x 4) = match ρ x with | .agg cs => apart Tryd.prog 5 cs 4 | _ => none := lop_field x 4 4 1 5 pl99_4 ft99_4
theorem fa99_5 (ρ : Operand → Value) (H : Hp) (x : Operand) : lop Tryd.prog ρ H (.fieldAddr 99 x 5) = match ρ x with | .pointer (some a) => (if a.spot = none then some (.pointer (some ⟨a.block, a.off + 5, none⟩)) else none) | _ => none := lop_fieldAddr x 5 5 1 pl99_5 (by decide)
theorem fd99_5 (ρ : Operand → Value) (H : Hp) (x : Operand) : lop Tryd.prog ρ H (.field 99 x 5) = match ρ x with | .agg cs => apart Tryd.prog 5 cs 5 | _ => none := lop_field x 5 5 1 5 pl99_5 ft99_5
theorem fa99_6 (ρ : Operand → Value) (H : Hp) (x : Operand) : lop Tryd.prog ρ H (.fieldAddr 99 x 6) = match ρ x with | .pointer (some a) => (if a.spot = none then some (.pointer (some ⟨a.block, a.off + 6, none⟩)) else none) | _ => none := lop_fieldAddr x 6 6 1 pl99_6 (by decide)
theorem fd99_6 (ρ : Operand → Value) (H : Hp) (x : Operand) : lop Tryd.prog ρ H (.field 99 x 6) = match ρ x with | .agg cs => apart Tryd.prog 93 cs 6 | _ => none := lop_field x 6 6 1 93 pl99_6 ft99_6
theorem fa99_7 (ρ : Operand → Value) (H : Hp) (x : Operand) : lop Tryd.prog ρ H (.fieldAddr 99 x 7) = match ρ x with | .pointer (some a) => (if a.spot = none then some (.pointer (some ⟨a.block, a.off + 7, none⟩)) else none) | _ => none := lop_fieldAddr x 7 7 1 pl99_7 (by decide)
theorem fd99_7 (ρ : Operand → Value) (H : Hp) (x : Operand) : lop Tryd.prog ρ H (.field 99 x 7) = match ρ x with | .agg cs => apart Tryd.prog 94 cs 7 | _ => none := lop_field x 7 7 1 94 pl99_7 ft99_7
theorem fa99_8 (ρ : Operand → Value) (H : Hp) (x : Operand) : lop Tryd.prog ρ H (.fieldAddr 99 x 8) = match ρ x with | .pointer (some a) => (if a.spot = none then some (.pointer (some ⟨a.block, a.off + 8, none⟩)) else none) | _ => none := lop_fieldAddr x 8 8 1 pl99_8 (by decide)
theorem fd99_8 (ρ : Operand → Value) (H : Hp) (x : Operand) : lop Tryd.prog ρ H (.field 99 x 8) = match ρ x with | .agg cs => apart Tryd.prog 95 cs 8 | _ => none := lop_field x 8 8 1 95 pl99_8 ft99_8
theorem fa99_9 (ρ : Operand → Value) (H : Hp) (x : Operand) : lop Tryd.prog ρ H (.fieldAddr 99 x 9) = match ρ x with | .pointer (some a) => (if a.spot = none then some (.pointer (some ⟨a.block, a.off + 9, none⟩)) else none) | _ => none := lop_fieldAddr x 9 9 1 pl99_9 (by decide)
theorem fd99_9 (ρ : Operand → Value) (H : Hp) (x : Operand) : lop Tryd.prog ρ H (.field 99 x 9) = match ρ x with | .agg cs => apart Tryd.prog 96 cs 9 | _ => none := lop_field x 9 9 1 96 pl99_9 ft99_9
theorem fa99_10 (ρ : Operand → Value) (H : Hp) (x : Operand) : lop Tryd.prog ρ H (.fieldAddr 99 x 10) = match ρ x with | .pointer (some a) => (if a.spot = none then some (.pointer (some ⟨a.block, a.off + 10, none⟩)) else none) | _ => none := lop_fieldAddr x 10 10 1 pl99_10 (by decide)
theorem fd99_10 (ρ : Operand → Value) (H : Hp) (x : Operand) : lop Tryd.prog ρ H (.field 99 x 10) = match ρ x with | .agg cs => apart Tryd.prog 97 cs 10 | _ => none := lop_field x 10 10 1 97 pl99_10 ft99_10
theorem bd99 (ρ : Operand → Value) (H : Hp) (parts : Array (Nat × Operand)) : lop Tryd.prog ρ H (.build 99 parts) = if parts.toList.all (fun p => !isTup (ρ p.2)) then (afill (place Tryd.prog 99) (Value.cells (.agg #[.int .u64 0, .int .u64 0, .int .u32 0, .int .u8 0, .int .u8 0, .int .u8 0, .int .u8 0, .nilFunc, .pointer none, .int .i32 0, .int .i32 0])).toList (parts.toList.map fun p => (p.1, ρ p.2))).map fun cs => .agg cs.toArray else none := lop_build parts _ zt99 sd99 rfl
theorem ld100 (H : Hp) (a : Addr) : aload Tryd.prog 100 (.pointer (some a)) H = cellAt H a := aload_cell ag100 kn100 a
theorem ap100 (cs : Array Value) (off : Nat) : apart Tryd.prog 100 cs off = cs[off]? := apart_cell ag100 kn100 cs off
theorem so100 (H : Hp) (b off : Nat) (x : Value) : astore Tryd.prog 100 (.pointer (some ⟨b, off, none⟩)) x H = match H.get b with | .cells true e c => (if x.cells.size = 1 ∧ isTup x = false ∧ off + 1 ≤ c.length then some (H.put b (.cells true e (setAll c off x.cells.toList))) else none) | _ => none := astore_sz sz100 b off x
theorem al100 (X : Outer) (ops : Array Oper) (dd : Option Tmp) (ty : TypeId) (pos : String) (af : Array Edge) (e : Env) (H : Hp) (K : Value → Hp → Prop) : Step Tryd.prog X ops ⟨dd, .alloc 100, ty, pos, af, none⟩ e H K = K (.pointer (some ⟨H.next, 0, none⟩)) (H.push (.cells true 100 [.pointer none])) := Step_alloc zt100 rfl
theorem fk2 : funcOk Tryd.prog 2 = true := by kernel_rfl
theorem fk3 : funcOk Tryd.prog 3 = true := by kernel_rfl
theorem fk4 : funcOk Tryd.prog 4 = true := by kernel_rfl
theorem fk5 : funcOk Tryd.prog 5 = true := by kernel_rfl
theorem fk6 : funcOk Tryd.prog 6 = true := by kernel_rfl
theorem fk7 : funcOk Tryd.prog 7 = true := by kernel_rfl
theorem fk8 : funcOk Tryd.prog 8 = true := by kernel_rfl
theorem fk9 : funcOk Tryd.prog 9 = true := by kernel_rfl
theorem fk10 : funcOk Tryd.prog 10 = true := by kernel_rfl
theorem fk11 : funcOk Tryd.prog 11 = true := by kernel_rfl
theorem fk12 : funcOk Tryd.prog 12 = true := by kernel_rfl
theorem fk13 : funcOk Tryd.prog 13 = true := by kernel_rfl
theorem fk14 : funcOk Tryd.prog 14 = true := by kernel_rfl
theorem fk15 : funcOk Tryd.prog 15 = true := by kernel_rfl
theorem fk16 : funcOk Tryd.prog 16 = true := by kernel_rfl
theorem fk17 : funcOk Tryd.prog 17 = true := by kernel_rfl
theorem fk18 : funcOk Tryd.prog 18 = true := by kernel_rfl
theorem fk19 : funcOk Tryd.prog 19 = true := by kernel_rfl
theorem fk20 : funcOk Tryd.prog 20 = true := by kernel_rfl
theorem fk21 : funcOk Tryd.prog 21 = true := by kernel_rfl
theorem fk22 : funcOk Tryd.prog 22 = true := by kernel_rfl
theorem fk23 : funcOk Tryd.prog 23 = true := by kernel_rfl
theorem fk24 : funcOk Tryd.prog 24 = true := by kernel_rfl
theorem fk25 : funcOk Tryd.prog 25 = true := by kernel_rfl
theorem fk26 : funcOk Tryd.prog 26 = true := by kernel_rfl
theorem fk27 : funcOk Tryd.prog 27 = true := by kernel_rfl
theorem fk28 : funcOk Tryd.prog 28 = true := by kernel_rfl
theorem fk29 : funcOk Tryd.prog 29 = true := by kernel_rfl
theorem fk30 : funcOk Tryd.prog 30 = true := by kernel_rfl
theorem fk31 : funcOk Tryd.prog 31 = true := by kernel_rfl
theorem fk32 : funcOk Tryd.prog 32 = true := by kernel_rfl
theorem fk33 : funcOk Tryd.prog 33 = true := by kernel_rfl
theorem fk34 : funcOk Tryd.prog 34 = true := by kernel_rfl
theorem fk35 : funcOk Tryd.prog 35 = true := by kernel_rfl
theorem fk36 : funcOk Tryd.prog 36 = true := by kernel_rfl
theorem fk37 : funcOk Tryd.prog 37 = true := by kernel_rfl
theorem fk38 : funcOk Tryd.prog 38 = true := by kernel_rfl
theorem fk39 : funcOk Tryd.prog 39 = true := by kernel_rfl
theorem fk40 : funcOk Tryd.prog 40 = true := by kernel_rfl
theorem fk41 : funcOk Tryd.prog 41 = true := by kernel_rfl
theorem fk42 : funcOk Tryd.prog 42 = true := by kernel_rfl
theorem fk43 : funcOk Tryd.prog 43 = true := by kernel_rfl
theorem fk44 : funcOk Tryd.prog 44 = true := by kernel_rfl
theorem fk45 : funcOk Tryd.prog 45 = true := by kernel_rfl
theorem fk46 : funcOk Tryd.prog 46 = true := by kernel_rfl
theorem fk47 : funcOk Tryd.prog 47 = true := by kernel_rfl
theorem fk48 : funcOk Tryd.prog 48 = true := by kernel_rfl
theorem fk49 : funcOk Tryd.prog 49 = true := by kernel_rfl
theorem fk50 : funcOk Tryd.prog 50 = true := by kernel_rfl
theorem fk51 : funcOk Tryd.prog 51 = true := by kernel_rfl
theorem fk52 : funcOk Tryd.prog 52 = true := by kernel_rfl
theorem fk53 : funcOk Tryd.prog 53 = true := by kernel_rfl
theorem fk54 : funcOk Tryd.prog 54 = true := by kernel_rfl
theorem fk55 : funcOk Tryd.prog 55 = true := by kernel_rfl
theorem fk56 : funcOk Tryd.prog 56 = true := by kernel_rfl
theorem fk57 : funcOk Tryd.prog 57 = true := by kernel_rfl
theorem fk79 : funcOk Tryd.prog 79 = true := by kernel_rfl
end Go.Proofs.YtlndidjdeneolaaDoor.Abs
