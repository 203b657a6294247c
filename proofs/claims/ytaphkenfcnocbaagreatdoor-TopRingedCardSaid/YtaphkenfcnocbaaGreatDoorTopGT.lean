/-
  Facts of types. Conditions: none.
-/
import Derived.Test.YtaphkenfcnocbaaGreatDoorVCalls
import Derived.KernelRfl
import Derived.Test.YtaphkenfcnocbaaGreatDoorProg
set_option linter.unusedVariables false
set_option linter.unusedSimpArgs false
set_option linter.deprecated false
namespace Go.V
open Go.Proofs
set_option linter.unusedVariables false

theorem mixed : Tryz.prog.follows .mixedOrders = true := by kernel_rfl
@[go_sem] theorem szT3 : szT Tryz.prog 3 = some 1 := by kernel_rfl
@[go_sem] theorem aggT3 : aggT Tryz.prog 3 = some false := by kernel_rfl
@[go_sem] theorem boolT3 : boolT Tryz.prog 3 = false := by kernel_rfl
@[go_sem] theorem kT3 : kT Tryz.prog 3 = some .i64 := by kernel_rfl
@[go_sem] theorem knT3 : knT Tryz.prog 3 = true := by kernel_rfl
@[go_sem] theorem zeroT3 : zeroT Tryz.prog 3 = some (.int .i64 0) := by kernel_rfl
@[go_sem] theorem bytesT3 : bytesT Tryz.prog 3 = some 8 := by kernel_rfl
@[go_sem] theorem szT4 : szT Tryz.prog 4 = some 1 := by kernel_rfl
@[go_sem] theorem aggT4 : aggT Tryz.prog 4 = some false := by kernel_rfl
@[go_sem] theorem boolT4 : boolT Tryz.prog 4 = true := by kernel_rfl
@[go_sem] theorem zeroT4 : zeroT Tryz.prog 4 = some (.bool false) := by kernel_rfl
@[go_sem] theorem bytesT4 : bytesT Tryz.prog 4 = some 1 := by kernel_rfl
@[go_sem] theorem szT5 : szT Tryz.prog 5 = some 1 := by kernel_rfl
@[go_sem] theorem aggT5 : aggT Tryz.prog 5 = some false := by kernel_rfl
@[go_sem] theorem boolT5 : boolT Tryz.prog 5 = false := by kernel_rfl
@[go_sem] theorem kT5 : kT Tryz.prog 5 = some .u8 := by kernel_rfl
@[go_sem] theorem knT5 : knT Tryz.prog 5 = true := by kernel_rfl
@[go_sem] theorem zeroT5 : zeroT Tryz.prog 5 = some (.int .u8 0) := by kernel_rfl
@[go_sem] theorem bytesT5 : bytesT Tryz.prog 5 = some 1 := by kernel_rfl
@[go_sem] theorem szT9 : szT Tryz.prog 9 = some 1 := by kernel_rfl
@[go_sem] theorem aggT9 : aggT Tryz.prog 9 = some false := by kernel_rfl
@[go_sem] theorem boolT9 : boolT Tryz.prog 9 = false := by kernel_rfl
@[go_sem] theorem strT9 : Tryz.prog.underlying 9 = some .string := by kernel_rfl
@[go_sem] theorem bytesT9 : bytesT Tryz.prog 9 = some 16 := by kernel_rfl
@[go_sem] theorem szT22 : szT Tryz.prog 22 = some 3 := by kernel_rfl
@[go_sem] theorem aggT22 : aggT Tryz.prog 22 = some true := by kernel_rfl
@[go_sem] theorem boolT22 : boolT Tryz.prog 22 = false := by kernel_rfl
@[go_sem] theorem arT22 : arT Tryz.prog 22 = some (3, 5, 1) := by kernel_rfl
@[go_sem] theorem zeroT22 : zeroT Tryz.prog 22 = some (.agg #[.int .u8 0, .int .u8 0, .int .u8 0]) := by kernel_rfl
@[go_sem] theorem bytesT22 : bytesT Tryz.prog 22 = some 3 := by kernel_rfl
@[go_sem] theorem bldT22 : bldT Tryz.prog 22 = some ([.int .u8 0, .int .u8 0, .int .u8 0], fun i => some (i * 1, 1)) := by kernel_rfl
@[go_sem] theorem szT23 : szT Tryz.prog 23 = some 9 := by kernel_rfl
@[go_sem] theorem aggT23 : aggT Tryz.prog 23 = some true := by kernel_rfl
@[go_sem] theorem boolT23 : boolT Tryz.prog 23 = false := by kernel_rfl
@[go_sem] theorem arT23 : arT Tryz.prog 23 = some (3, 22, 3) := by kernel_rfl
@[go_sem] theorem zeroT23 : zeroT Tryz.prog 23 = some (.agg #[.int .u8 0, .int .u8 0, .int .u8 0, .int .u8 0, .int .u8 0, .int .u8 0, .int .u8 0, .int .u8 0, .int .u8 0]) := by kernel_rfl
@[go_sem] theorem bytesT23 : bytesT Tryz.prog 23 = some 9 := by kernel_rfl
@[go_sem] theorem bldT23 : bldT Tryz.prog 23 = some ([.int .u8 0, .int .u8 0, .int .u8 0, .int .u8 0, .int .u8 0, .int .u8 0, .int .u8 0, .int .u8 0, .int .u8 0], fun i => some (i * 3, 3)) := by kernel_rfl
@[go_sem] theorem szT24 : szT Tryz.prog 24 = some 8 := by kernel_rfl
@[go_sem] theorem aggT24 : aggT Tryz.prog 24 = some true := by kernel_rfl
@[go_sem] theorem boolT24 : boolT Tryz.prog 24 = false := by kernel_rfl
@[go_sem] theorem arT24 : arT Tryz.prog 24 = some (8, 5, 1) := by kernel_rfl
@[go_sem] theorem zeroT24 : zeroT Tryz.prog 24 = some (.agg #[.int .u8 0, .int .u8 0, .int .u8 0, .int .u8 0, .int .u8 0, .int .u8 0, .int .u8 0, .int .u8 0]) := by kernel_rfl
@[go_sem] theorem bytesT24 : bytesT Tryz.prog 24 = some 8 := by kernel_rfl
@[go_sem] theorem bldT24 : bldT Tryz.prog 24 = some ([.int .u8 0, .int .u8 0, .int .u8 0, .int .u8 0, .int .u8 0, .int .u8 0, .int .u8 0, .int .u8 0], fun i => some (i * 1, 1)) := by kernel_rfl
@[go_sem] theorem szT25 : szT Tryz.prog 25 = some 1 := by kernel_rfl
@[go_sem] theorem aggT25 : aggT Tryz.prog 25 = some false := by kernel_rfl
@[go_sem] theorem boolT25 : boolT Tryz.prog 25 = false := by kernel_rfl
@[go_sem] theorem slT25 : slT Tryz.prog 25 = some (26, 1) := by kernel_rfl
@[go_sem] theorem zeroT25 : zeroT Tryz.prog 25 = some (.slice none 0 0) := by kernel_rfl
@[go_sem] theorem bytesT25 : bytesT Tryz.prog 25 = some 24 := by kernel_rfl
@[go_sem] theorem szT26 : szT Tryz.prog 26 = some 1 := by kernel_rfl
@[go_sem] theorem aggT26 : aggT Tryz.prog 26 = some false := by kernel_rfl
@[go_sem] theorem boolT26 : boolT Tryz.prog 26 = false := by kernel_rfl
@[go_sem] theorem slT26 : slT Tryz.prog 26 = some (3, 1) := by kernel_rfl
@[go_sem] theorem zeroT26 : zeroT Tryz.prog 26 = some (.slice none 0 0) := by kernel_rfl
@[go_sem] theorem bytesT26 : bytesT Tryz.prog 26 = some 24 := by kernel_rfl
@[go_sem] theorem szT28 : szT Tryz.prog 28 = some 2 := by kernel_rfl
@[go_sem] theorem aggT28 : aggT Tryz.prog 28 = some true := by kernel_rfl
@[go_sem] theorem boolT28 : boolT Tryz.prog 28 = false := by kernel_rfl
@[go_sem] theorem fofT28_0 : fofT Tryz.prog 28 0 = some (0, 26, 1) := by kernel_rfl
@[go_sem] theorem fofT28_1 : fofT Tryz.prog 28 1 = some (1, 26, 1) := by kernel_rfl
@[go_sem] theorem zeroT28 : zeroT Tryz.prog 28 = some (.agg #[.slice none 0 0, .slice none 0 0]) := by kernel_rfl
@[go_sem] theorem bytesT28 : bytesT Tryz.prog 28 = some 48 := by kernel_rfl
@[go_sem] theorem bldT28 : bldT Tryz.prog 28 = some ([.slice none 0 0, .slice none 0 0], fun i => ([(0, 1), (1, 1)] : List (Nat × Nat))[i]?) := by kernel_rfl
@[go_sem] theorem szT29 : szT Tryz.prog 29 = some 1 := by kernel_rfl
@[go_sem] theorem aggT29 : aggT Tryz.prog 29 = some false := by kernel_rfl
@[go_sem] theorem boolT29 : boolT Tryz.prog 29 = false := by kernel_rfl
@[go_sem] theorem kT29 : kT Tryz.prog 29 = some .i64 := by kernel_rfl
@[go_sem] theorem knT29 : knT Tryz.prog 29 = true := by kernel_rfl
@[go_sem] theorem zeroT29 : zeroT Tryz.prog 29 = some (.int .i64 0) := by kernel_rfl
@[go_sem] theorem bytesT29 : bytesT Tryz.prog 29 = some 8 := by kernel_rfl
@[go_sem] theorem szT40 : szT Tryz.prog 40 = some 1 := by kernel_rfl
@[go_sem] theorem aggT40 : aggT Tryz.prog 40 = some false := by kernel_rfl
@[go_sem] theorem boolT40 : boolT Tryz.prog 40 = false := by kernel_rfl
@[go_sem] theorem slT40 : slT Tryz.prog 40 = some (46, 2) := by kernel_rfl
@[go_sem] theorem zeroT40 : zeroT Tryz.prog 40 = some (.slice none 0 0) := by kernel_rfl
@[go_sem] theorem bytesT40 : bytesT Tryz.prog 40 = some 24 := by kernel_rfl
@[go_sem] theorem szT42 : szT Tryz.prog 42 = some 2 := by kernel_rfl
@[go_sem] theorem aggT42 : aggT Tryz.prog 42 = some true := by kernel_rfl
@[go_sem] theorem boolT42 : boolT Tryz.prog 42 = false := by kernel_rfl
@[go_sem] theorem fofT42_0 : fofT Tryz.prog 42 0 = some (0, 3, 1) := by kernel_rfl
@[go_sem] theorem fofT42_1 : fofT Tryz.prog 42 1 = some (1, 40, 1) := by kernel_rfl
@[go_sem] theorem zeroT42 : zeroT Tryz.prog 42 = some (.agg #[.int .i64 0, .slice none 0 0]) := by kernel_rfl
@[go_sem] theorem bytesT42 : bytesT Tryz.prog 42 = some 32 := by kernel_rfl
@[go_sem] theorem bldT42 : bldT Tryz.prog 42 = some ([.int .i64 0, .slice none 0 0], fun i => ([(0, 1), (1, 1)] : List (Nat × Nat))[i]?) := by kernel_rfl
@[go_sem] theorem szT43 : szT Tryz.prog 43 = some 1 := by kernel_rfl
@[go_sem] theorem aggT43 : aggT Tryz.prog 43 = some false := by kernel_rfl
@[go_sem] theorem boolT43 : boolT Tryz.prog 43 = false := by kernel_rfl
@[go_sem] theorem slT43 : slT Tryz.prog 43 = some (49, 2) := by kernel_rfl
@[go_sem] theorem zeroT43 : zeroT Tryz.prog 43 = some (.slice none 0 0) := by kernel_rfl
@[go_sem] theorem bytesT43 : bytesT Tryz.prog 43 = some 24 := by kernel_rfl
@[go_sem] theorem szT45 : szT Tryz.prog 45 = some 2 := by kernel_rfl
@[go_sem] theorem aggT45 : aggT Tryz.prog 45 = some true := by kernel_rfl
@[go_sem] theorem boolT45 : boolT Tryz.prog 45 = false := by kernel_rfl
@[go_sem] theorem fofT45_0 : fofT Tryz.prog 45 0 = some (0, 3, 1) := by kernel_rfl
@[go_sem] theorem fofT45_1 : fofT Tryz.prog 45 1 = some (1, 43, 1) := by kernel_rfl
@[go_sem] theorem zeroT45 : zeroT Tryz.prog 45 = some (.agg #[.int .i64 0, .slice none 0 0]) := by kernel_rfl
@[go_sem] theorem bytesT45 : bytesT Tryz.prog 45 = some 32 := by kernel_rfl
@[go_sem] theorem bldT45 : bldT Tryz.prog 45 = some ([.int .i64 0, .slice none 0 0], fun i => ([(0, 1), (1, 1)] : List (Nat × Nat))[i]?) := by kernel_rfl
@[go_sem] theorem szT46 : szT Tryz.prog 46 = some 2 := by kernel_rfl
@[go_sem] theorem aggT46 : aggT Tryz.prog 46 = some true := by kernel_rfl
@[go_sem] theorem boolT46 : boolT Tryz.prog 46 = false := by kernel_rfl
@[go_sem] theorem arT46 : arT Tryz.prog 46 = some (2, 3, 1) := by kernel_rfl
@[go_sem] theorem zeroT46 : zeroT Tryz.prog 46 = some (.agg #[.int .i64 0, .int .i64 0]) := by kernel_rfl
@[go_sem] theorem bytesT46 : bytesT Tryz.prog 46 = some 16 := by kernel_rfl
@[go_sem] theorem bldT46 : bldT Tryz.prog 46 = some ([.int .i64 0, .int .i64 0], fun i => some (i * 1, 1)) := by kernel_rfl
@[go_sem] theorem szT49 : szT Tryz.prog 49 = some 2 := by kernel_rfl
@[go_sem] theorem aggT49 : aggT Tryz.prog 49 = some true := by kernel_rfl
@[go_sem] theorem boolT49 : boolT Tryz.prog 49 = false := by kernel_rfl
@[go_sem] theorem fofT49_0 : fofT Tryz.prog 49 0 = some (0, 26, 1) := by kernel_rfl
@[go_sem] theorem fofT49_1 : fofT Tryz.prog 49 1 = some (1, 26, 1) := by kernel_rfl
@[go_sem] theorem zeroT49 : zeroT Tryz.prog 49 = some (.agg #[.slice none 0 0, .slice none 0 0]) := by kernel_rfl
@[go_sem] theorem bytesT49 : bytesT Tryz.prog 49 = some 48 := by kernel_rfl
@[go_sem] theorem bldT49 : bldT Tryz.prog 49 = some ([.slice none 0 0, .slice none 0 0], fun i => ([(0, 1), (1, 1)] : List (Nat × Nat))[i]?) := by kernel_rfl
@[go_sem] theorem szT61 : szT Tryz.prog 61 = some 1 := by kernel_rfl
@[go_sem] theorem aggT61 : aggT Tryz.prog 61 = some false := by kernel_rfl
@[go_sem] theorem boolT61 : boolT Tryz.prog 61 = false := by kernel_rfl
@[go_sem] theorem zeroT61 : zeroT Tryz.prog 61 = some (.nilFunc) := by kernel_rfl
@[go_sem] theorem bytesT61 : bytesT Tryz.prog 61 = some 8 := by kernel_rfl
@[go_sem] theorem szT65 : szT Tryz.prog 65 = some 1 := by kernel_rfl
@[go_sem] theorem aggT65 : aggT Tryz.prog 65 = some false := by kernel_rfl
@[go_sem] theorem boolT65 : boolT Tryz.prog 65 = false := by kernel_rfl
@[go_sem] theorem zeroT65 : zeroT Tryz.prog 65 = some (.pointer none) := by kernel_rfl
@[go_sem] theorem bytesT65 : bytesT Tryz.prog 65 = some 8 := by kernel_rfl
@[go_sem] theorem szT68 : szT Tryz.prog 68 = some 1 := by kernel_rfl
@[go_sem] theorem aggT68 : aggT Tryz.prog 68 = some false := by kernel_rfl
@[go_sem] theorem boolT68 : boolT Tryz.prog 68 = false := by kernel_rfl
@[go_sem] theorem zeroT68 : zeroT Tryz.prog 68 = some (.pointer none) := by kernel_rfl
@[go_sem] theorem bytesT68 : bytesT Tryz.prog 68 = some 8 := by kernel_rfl
@[go_sem] theorem szT69 : szT Tryz.prog 69 = some 5 := by kernel_rfl
@[go_sem] theorem aggT69 : aggT Tryz.prog 69 = some true := by kernel_rfl
@[go_sem] theorem boolT69 : boolT Tryz.prog 69 = false := by kernel_rfl
@[go_sem] theorem arT69 : arT Tryz.prog 69 = some (5, 3, 1) := by kernel_rfl
@[go_sem] theorem zeroT69 : zeroT Tryz.prog 69 = some (.agg #[.int .i64 0, .int .i64 0, .int .i64 0, .int .i64 0, .int .i64 0]) := by kernel_rfl
@[go_sem] theorem bytesT69 : bytesT Tryz.prog 69 = some 40 := by kernel_rfl
@[go_sem] theorem bldT69 : bldT Tryz.prog 69 = some ([.int .i64 0, .int .i64 0, .int .i64 0, .int .i64 0, .int .i64 0], fun i => some (i * 1, 1)) := by kernel_rfl
@[go_sem] theorem szT70 : szT Tryz.prog 70 = some 25 := by kernel_rfl
@[go_sem] theorem aggT70 : aggT Tryz.prog 70 = some true := by kernel_rfl
@[go_sem] theorem boolT70 : boolT Tryz.prog 70 = false := by kernel_rfl
@[go_sem] theorem arT70 : arT Tryz.prog 70 = some (5, 69, 5) := by kernel_rfl
@[go_sem] theorem zeroT70 : zeroT Tryz.prog 70 = some (.agg (List.replicate 25 (.int .i64 0)).toArray) := by kernel_rfl
@[go_sem] theorem bytesT70 : bytesT Tryz.prog 70 = some 200 := by kernel_rfl
@[go_sem] theorem szT72 : szT Tryz.prog 72 = some 28 := by kernel_rfl
@[go_sem] theorem aggT72 : aggT Tryz.prog 72 = some true := by kernel_rfl
@[go_sem] theorem boolT72 : boolT Tryz.prog 72 = false := by kernel_rfl
@[go_sem] theorem fofT72_0 : fofT Tryz.prog 72 0 = some (0, 3, 1) := by kernel_rfl
@[go_sem] theorem fofT72_1 : fofT Tryz.prog 72 1 = some (1, 3, 1) := by kernel_rfl
@[go_sem] theorem fofT72_2 : fofT Tryz.prog 72 2 = some (2, 4, 1) := by kernel_rfl
@[go_sem] theorem fofT72_3 : fofT Tryz.prog 72 3 = some (3, 70, 25) := by kernel_rfl
@[go_sem] theorem zeroT72 : zeroT Tryz.prog 72 = some (.agg #[.int .i64 0, .int .i64 0, .bool false, .int .i64 0, .int .i64 0, .int .i64 0, .int .i64 0, .int .i64 0, .int .i64 0, .int .i64 0, .int .i64 0, .int .i64 0, .int .i64 0, .int .i64 0, .int .i64 0, .int .i64 0, .int .i64 0, .int .i64 0, .int .i64 0, .int .i64 0, .int .i64 0, .int .i64 0, .int .i64 0, .int .i64 0, .int .i64 0, .int .i64 0, .int .i64 0, .int .i64 0]) := by kernel_rfl
@[go_sem] theorem bytesT72 : bytesT Tryz.prog 72 = some 224 := by kernel_rfl
@[go_sem] theorem bldT72 : bldT Tryz.prog 72 = some ([.int .i64 0, .int .i64 0, .bool false, .int .i64 0, .int .i64 0, .int .i64 0, .int .i64 0, .int .i64 0, .int .i64 0, .int .i64 0, .int .i64 0, .int .i64 0, .int .i64 0, .int .i64 0, .int .i64 0, .int .i64 0, .int .i64 0, .int .i64 0, .int .i64 0, .int .i64 0, .int .i64 0, .int .i64 0, .int .i64 0, .int .i64 0, .int .i64 0, .int .i64 0, .int .i64 0, .int .i64 0], fun i => ([(0, 1), (1, 1), (2, 1), (3, 25)] : List (Nat × Nat))[i]?) := by kernel_rfl
@[go_sem] theorem szT79 : szT Tryz.prog 79 = some 1 := by kernel_rfl
@[go_sem] theorem aggT79 : aggT Tryz.prog 79 = some false := by kernel_rfl
@[go_sem] theorem boolT79 : boolT Tryz.prog 79 = false := by kernel_rfl
@[go_sem] theorem zeroT79 : zeroT Tryz.prog 79 = some (.nilFunc) := by kernel_rfl
@[go_sem] theorem bytesT79 : bytesT Tryz.prog 79 = some 8 := by kernel_rfl
@[go_sem] theorem szT81 : szT Tryz.prog 81 = some 1 := by kernel_rfl
@[go_sem] theorem aggT81 : aggT Tryz.prog 81 = some false := by kernel_rfl
@[go_sem] theorem boolT81 : boolT Tryz.prog 81 = false := by kernel_rfl
@[go_sem] theorem zeroT81 : zeroT Tryz.prog 81 = some (.nilFunc) := by kernel_rfl
@[go_sem] theorem bytesT81 : bytesT Tryz.prog 81 = some 8 := by kernel_rfl
@[go_sem] theorem szT85 : szT Tryz.prog 85 = some 1 := by kernel_rfl
@[go_sem] theorem aggT85 : aggT Tryz.prog 85 = some false := by kernel_rfl
@[go_sem] theorem boolT85 : boolT Tryz.prog 85 = false := by kernel_rfl
@[go_sem] theorem zeroT85 : zeroT Tryz.prog 85 = some (.pointer none) := by kernel_rfl
@[go_sem] theorem bytesT85 : bytesT Tryz.prog 85 = some 8 := by kernel_rfl
@[go_sem] theorem szT87 : szT Tryz.prog 87 = some 2 := by kernel_rfl
@[go_sem] theorem aggT87 : aggT Tryz.prog 87 = some true := by kernel_rfl
@[go_sem] theorem boolT87 : boolT Tryz.prog 87 = false := by kernel_rfl
@[go_sem] theorem fofT87_0 : fofT Tryz.prog 87 0 = some (0, 3, 1) := by kernel_rfl
@[go_sem] theorem fofT87_1 : fofT Tryz.prog 87 1 = some (1, 3, 1) := by kernel_rfl
@[go_sem] theorem zeroT87 : zeroT Tryz.prog 87 = some (.agg #[.int .i64 0, .int .i64 0]) := by kernel_rfl
@[go_sem] theorem bytesT87 : bytesT Tryz.prog 87 = some 16 := by kernel_rfl
@[go_sem] theorem bldT87 : bldT Tryz.prog 87 = some ([.int .i64 0, .int .i64 0], fun i => ([(0, 1), (1, 1)] : List (Nat × Nat))[i]?) := by kernel_rfl
@[go_sem] theorem eqA87 (x0 y0 : Int) (x1 y1 : Int) : eqA Tryz.prog 87 [.val (.int .i64 x0), .val (.int .i64 x1)] [.val (.int .i64 y0), .val (.int .i64 y1)] = some (x0 == y0 && (x1 == y1 && true)) := by kernel_rfl
@[go_sem] theorem szT90 : szT Tryz.prog 90 = some 1 := by kernel_rfl
@[go_sem] theorem aggT90 : aggT Tryz.prog 90 = some false := by kernel_rfl
@[go_sem] theorem boolT90 : boolT Tryz.prog 90 = false := by kernel_rfl
@[go_sem] theorem kT90 : kT Tryz.prog 90 = some .u8 := by kernel_rfl
@[go_sem] theorem knT90 : knT Tryz.prog 90 = true := by kernel_rfl
@[go_sem] theorem zeroT90 : zeroT Tryz.prog 90 = some (.int .u8 0) := by kernel_rfl
@[go_sem] theorem bytesT90 : bytesT Tryz.prog 90 = some 1 := by kernel_rfl
@[go_sem] theorem szT91 : szT Tryz.prog 91 = some 1 := by kernel_rfl
@[go_sem] theorem aggT91 : aggT Tryz.prog 91 = some false := by kernel_rfl
@[go_sem] theorem boolT91 : boolT Tryz.prog 91 = false := by kernel_rfl
@[go_sem] theorem slT91 : slT Tryz.prog 91 = some (109, 3) := by kernel_rfl
@[go_sem] theorem zeroT91 : zeroT Tryz.prog 91 = some (.slice none 0 0) := by kernel_rfl
@[go_sem] theorem bytesT91 : bytesT Tryz.prog 91 = some 24 := by kernel_rfl
@[go_sem] theorem szT93 : szT Tryz.prog 93 = some 2 := by kernel_rfl
@[go_sem] theorem aggT93 : aggT Tryz.prog 93 = some true := by kernel_rfl
@[go_sem] theorem boolT93 : boolT Tryz.prog 93 = false := by kernel_rfl
@[go_sem] theorem fofT93_0 : fofT Tryz.prog 93 0 = some (0, 90, 1) := by kernel_rfl
@[go_sem] theorem fofT93_1 : fofT Tryz.prog 93 1 = some (1, 91, 1) := by kernel_rfl
@[go_sem] theorem zeroT93 : zeroT Tryz.prog 93 = some (.agg #[.int .u8 0, .slice none 0 0]) := by kernel_rfl
@[go_sem] theorem bytesT93 : bytesT Tryz.prog 93 = some 32 := by kernel_rfl
@[go_sem] theorem bldT93 : bldT Tryz.prog 93 = some ([.int .u8 0, .slice none 0 0], fun i => ([(0, 1), (1, 1)] : List (Nat × Nat))[i]?) := by kernel_rfl
@[go_sem] theorem szT96 : szT Tryz.prog 96 = some 1 := by kernel_rfl
@[go_sem] theorem aggT96 : aggT Tryz.prog 96 = some false := by kernel_rfl
@[go_sem] theorem boolT96 : boolT Tryz.prog 96 = false := by kernel_rfl
@[go_sem] theorem slT96 : slT Tryz.prog 96 = some (90, 1) := by kernel_rfl
@[go_sem] theorem zeroT96 : zeroT Tryz.prog 96 = some (.slice none 0 0) := by kernel_rfl
@[go_sem] theorem bytesT96 : bytesT Tryz.prog 96 = some 24 := by kernel_rfl
@[go_sem] theorem szT99 : szT Tryz.prog 99 = some 1 := by kernel_rfl
@[go_sem] theorem aggT99 : aggT Tryz.prog 99 = some false := by kernel_rfl
@[go_sem] theorem boolT99 : boolT Tryz.prog 99 = false := by kernel_rfl
@[go_sem] theorem zeroT99 : zeroT Tryz.prog 99 = some (.nilFunc) := by kernel_rfl
@[go_sem] theorem bytesT99 : bytesT Tryz.prog 99 = some 8 := by kernel_rfl
@[go_sem] theorem szT101 : szT Tryz.prog 101 = some 1 := by kernel_rfl
@[go_sem] theorem aggT101 : aggT Tryz.prog 101 = some false := by kernel_rfl
@[go_sem] theorem boolT101 : boolT Tryz.prog 101 = false := by kernel_rfl
@[go_sem] theorem slT101 : slT Tryz.prog 101 = some (105, 2) := by kernel_rfl
@[go_sem] theorem zeroT101 : zeroT Tryz.prog 101 = some (.slice none 0 0) := by kernel_rfl
@[go_sem] theorem bytesT101 : bytesT Tryz.prog 101 = some 24 := by kernel_rfl
@[go_sem] theorem szT105 : szT Tryz.prog 105 = some 2 := by kernel_rfl
@[go_sem] theorem aggT105 : aggT Tryz.prog 105 = some true := by kernel_rfl
@[go_sem] theorem boolT105 : boolT Tryz.prog 105 = false := by kernel_rfl
@[go_sem] theorem fofT105_0 : fofT Tryz.prog 105 0 = some (0, 90, 1) := by kernel_rfl
@[go_sem] theorem fofT105_1 : fofT Tryz.prog 105 1 = some (1, 90, 1) := by kernel_rfl
@[go_sem] theorem zeroT105 : zeroT Tryz.prog 105 = some (.agg #[.int .u8 0, .int .u8 0]) := by kernel_rfl
@[go_sem] theorem bytesT105 : bytesT Tryz.prog 105 = some 2 := by kernel_rfl
@[go_sem] theorem bldT105 : bldT Tryz.prog 105 = some ([.int .u8 0, .int .u8 0], fun i => ([(0, 1), (1, 1)] : List (Nat × Nat))[i]?) := by kernel_rfl
@[go_sem] theorem eqA105 (x0 y0 : Int) (x1 y1 : Int) : eqA Tryz.prog 105 [.val (.int .u8 x0), .val (.int .u8 x1)] [.val (.int .u8 y0), .val (.int .u8 y1)] = some (x0 == y0 && (x1 == y1 && true)) := by kernel_rfl
@[go_sem] theorem szT107 : szT Tryz.prog 107 = some 1 := by kernel_rfl
@[go_sem] theorem aggT107 : aggT Tryz.prog 107 = some false := by kernel_rfl
@[go_sem] theorem boolT107 : boolT Tryz.prog 107 = false := by kernel_rfl
@[go_sem] theorem zeroT107 : zeroT Tryz.prog 107 = some (.nilFunc) := by kernel_rfl
@[go_sem] theorem bytesT107 : bytesT Tryz.prog 107 = some 8 := by kernel_rfl
@[go_sem] theorem szT109 : szT Tryz.prog 109 = some 3 := by kernel_rfl
@[go_sem] theorem aggT109 : aggT Tryz.prog 109 = some true := by kernel_rfl
@[go_sem] theorem boolT109 : boolT Tryz.prog 109 = false := by kernel_rfl
@[go_sem] theorem fofT109_0 : fofT Tryz.prog 109 0 = some (0, 105, 2) := by kernel_rfl
@[go_sem] theorem fofT109_1 : fofT Tryz.prog 109 1 = some (2, 3, 1) := by kernel_rfl
@[go_sem] theorem zeroT109 : zeroT Tryz.prog 109 = some (.agg #[.int .u8 0, .int .u8 0, .int .i64 0]) := by kernel_rfl
@[go_sem] theorem bytesT109 : bytesT Tryz.prog 109 = some 16 := by kernel_rfl
@[go_sem] theorem bldT109 : bldT Tryz.prog 109 = some ([.int .u8 0, .int .u8 0, .int .i64 0], fun i => ([(0, 2), (2, 1)] : List (Nat × Nat))[i]?) := by kernel_rfl
@[go_sem] theorem szT112 : szT Tryz.prog 112 = some 1 := by kernel_rfl
@[go_sem] theorem aggT112 : aggT Tryz.prog 112 = some false := by kernel_rfl
@[go_sem] theorem boolT112 : boolT Tryz.prog 112 = false := by kernel_rfl
@[go_sem] theorem kT112 : kT Tryz.prog 112 = some .u64 := by kernel_rfl
@[go_sem] theorem knT112 : knT Tryz.prog 112 = true := by kernel_rfl
@[go_sem] theorem zeroT112 : zeroT Tryz.prog 112 = some (.int .u64 0) := by kernel_rfl
@[go_sem] theorem bytesT112 : bytesT Tryz.prog 112 = some 8 := by kernel_rfl
@[go_sem] theorem szT113 : szT Tryz.prog 113 = some 1 := by kernel_rfl
@[go_sem] theorem aggT113 : aggT Tryz.prog 113 = some false := by kernel_rfl
@[go_sem] theorem boolT113 : boolT Tryz.prog 113 = false := by kernel_rfl
@[go_sem] theorem zeroT113 : zeroT Tryz.prog 113 = some (.nilFunc) := by kernel_rfl
@[go_sem] theorem bytesT113 : bytesT Tryz.prog 113 = some 8 := by kernel_rfl
@[go_sem] theorem szT114 : szT Tryz.prog 114 = some 2 := by kernel_rfl
@[go_sem] theorem aggT114 : aggT Tryz.prog 114 = some true := by kernel_rfl
@[go_sem] theorem boolT114 : boolT Tryz.prog 114 = false := by kernel_rfl
@[go_sem] theorem arT114 : arT Tryz.prog 114 = some (2, 112, 1) := by kernel_rfl
@[go_sem] theorem zeroT114 : zeroT Tryz.prog 114 = some (.agg #[.int .u64 0, .int .u64 0]) := by kernel_rfl
@[go_sem] theorem bytesT114 : bytesT Tryz.prog 114 = some 16 := by kernel_rfl
@[go_sem] theorem bldT114 : bldT Tryz.prog 114 = some ([.int .u64 0, .int .u64 0], fun i => some (i * 1, 1)) := by kernel_rfl
@[go_sem] theorem szT122 : szT Tryz.prog 122 = some 5 := by kernel_rfl
@[go_sem] theorem aggT122 : aggT Tryz.prog 122 = some true := by kernel_rfl
@[go_sem] theorem boolT122 : boolT Tryz.prog 122 = false := by kernel_rfl
@[go_sem] theorem arT122 : arT Tryz.prog 122 = some (5, 112, 1) := by kernel_rfl
@[go_sem] theorem zeroT122 : zeroT Tryz.prog 122 = some (.agg #[.int .u64 0, .int .u64 0, .int .u64 0, .int .u64 0, .int .u64 0]) := by kernel_rfl
@[go_sem] theorem bytesT122 : bytesT Tryz.prog 122 = some 40 := by kernel_rfl
@[go_sem] theorem bldT122 : bldT Tryz.prog 122 = some ([.int .u64 0, .int .u64 0, .int .u64 0, .int .u64 0, .int .u64 0], fun i => some (i * 1, 1)) := by kernel_rfl
@[go_sem] theorem szT124 : szT Tryz.prog 124 = some 36 := by kernel_rfl
@[go_sem] theorem aggT124 : aggT Tryz.prog 124 = some true := by kernel_rfl
@[go_sem] theorem boolT124 : boolT Tryz.prog 124 = false := by kernel_rfl
@[go_sem] theorem fofT124_0 : fofT Tryz.prog 124 0 = some (0, 3, 1) := by kernel_rfl
@[go_sem] theorem fofT124_1 : fofT Tryz.prog 124 1 = some (1, 70, 25) := by kernel_rfl
@[go_sem] theorem fofT124_2 : fofT Tryz.prog 124 2 = some (26, 122, 5) := by kernel_rfl
@[go_sem] theorem fofT124_3 : fofT Tryz.prog 124 3 = some (31, 122, 5) := by kernel_rfl
@[go_sem] theorem zeroT124 : zeroT Tryz.prog 124 = some (.agg #[.int .i64 0, .int .i64 0, .int .i64 0, .int .i64 0, .int .i64 0, .int .i64 0, .int .i64 0, .int .i64 0, .int .i64 0, .int .i64 0, .int .i64 0, .int .i64 0, .int .i64 0, .int .i64 0, .int .i64 0, .int .i64 0, .int .i64 0, .int .i64 0, .int .i64 0, .int .i64 0, .int .i64 0, .int .i64 0, .int .i64 0, .int .i64 0, .int .i64 0, .int .i64 0, .int .u64 0, .int .u64 0, .int .u64 0, .int .u64 0, .int .u64 0, .int .u64 0, .int .u64 0, .int .u64 0, .int .u64 0, .int .u64 0]) := by kernel_rfl
@[go_sem] theorem bytesT124 : bytesT Tryz.prog 124 = some 288 := by kernel_rfl
@[go_sem] theorem bldT124 : bldT Tryz.prog 124 = some ([.int .i64 0, .int .i64 0, .int .i64 0, .int .i64 0, .int .i64 0, .int .i64 0, .int .i64 0, .int .i64 0, .int .i64 0, .int .i64 0, .int .i64 0, .int .i64 0, .int .i64 0, .int .i64 0, .int .i64 0, .int .i64 0, .int .i64 0, .int .i64 0, .int .i64 0, .int .i64 0, .int .i64 0, .int .i64 0, .int .i64 0, .int .i64 0, .int .i64 0, .int .i64 0, .int .u64 0, .int .u64 0, .int .u64 0, .int .u64 0, .int .u64 0, .int .u64 0, .int .u64 0, .int .u64 0, .int .u64 0, .int .u64 0], fun i => ([(0, 1), (1, 25), (26, 5), (31, 5)] : List (Nat × Nat))[i]?) := by kernel_rfl
@[go_sem] theorem szT134 : szT Tryz.prog 134 = some 1 := by kernel_rfl
@[go_sem] theorem aggT134 : aggT Tryz.prog 134 = some false := by kernel_rfl
@[go_sem] theorem boolT134 : boolT Tryz.prog 134 = false := by kernel_rfl
@[go_sem] theorem zeroT134 : zeroT Tryz.prog 134 = some (.nilFunc) := by kernel_rfl
@[go_sem] theorem bytesT134 : bytesT Tryz.prog 134 = some 8 := by kernel_rfl
@[go_sem] theorem szT138 : szT Tryz.prog 138 = some 1 := by kernel_rfl
@[go_sem] theorem aggT138 : aggT Tryz.prog 138 = some false := by kernel_rfl
@[go_sem] theorem boolT138 : boolT Tryz.prog 138 = false := by kernel_rfl
@[go_sem] theorem zeroT138 : zeroT Tryz.prog 138 = some (.nilFunc) := by kernel_rfl
@[go_sem] theorem bytesT138 : bytesT Tryz.prog 138 = some 8 := by kernel_rfl
@[go_sem] theorem szT140 : szT Tryz.prog 140 = some 4 := by kernel_rfl
@[go_sem] theorem aggT140 : aggT Tryz.prog 140 = some true := by kernel_rfl
@[go_sem] theorem boolT140 : boolT Tryz.prog 140 = false := by kernel_rfl
@[go_sem] theorem arT140 : arT Tryz.prog 140 = some (4, 26, 1) := by kernel_rfl
@[go_sem] theorem zeroT140 : zeroT Tryz.prog 140 = some (.agg #[.slice none 0 0, .slice none 0 0, .slice none 0 0, .slice none 0 0]) := by kernel_rfl
@[go_sem] theorem bytesT140 : bytesT Tryz.prog 140 = some 96 := by kernel_rfl
@[go_sem] theorem bldT140 : bldT Tryz.prog 140 = some ([.slice none 0 0, .slice none 0 0, .slice none 0 0, .slice none 0 0], fun i => some (i * 1, 1)) := by kernel_rfl
@[go_sem] theorem szT144 : szT Tryz.prog 144 = some 1 := by kernel_rfl
@[go_sem] theorem aggT144 : aggT Tryz.prog 144 = some false := by kernel_rfl
@[go_sem] theorem boolT144 : boolT Tryz.prog 144 = false := by kernel_rfl
@[go_sem] theorem zeroT144 : zeroT Tryz.prog 144 = some (.nilFunc) := by kernel_rfl
@[go_sem] theorem bytesT144 : bytesT Tryz.prog 144 = some 8 := by kernel_rfl
@[go_sem] theorem szT148 : szT Tryz.prog 148 = some 1 := by kernel_rfl
@[go_sem] theorem aggT148 : aggT Tryz.prog 148 = some false := by kernel_rfl
@[go_sem] theorem boolT148 : boolT Tryz.prog 148 = false := by kernel_rfl
@[go_sem] theorem zeroT148 : zeroT Tryz.prog 148 = some (.nilFunc) := by kernel_rfl
@[go_sem] theorem bytesT148 : bytesT Tryz.prog 148 = some 8 := by kernel_rfl
@[go_sem] theorem szT151 : szT Tryz.prog 151 = some 1 := by kernel_rfl
@[go_sem] theorem aggT151 : aggT Tryz.prog 151 = some false := by kernel_rfl
@[go_sem] theorem boolT151 : boolT Tryz.prog 151 = false := by kernel_rfl
@[go_sem] theorem zeroT151 : zeroT Tryz.prog 151 = some (.nilFunc) := by kernel_rfl
@[go_sem] theorem bytesT151 : bytesT Tryz.prog 151 = some 8 := by kernel_rfl
@[go_sem] theorem szT153 : szT Tryz.prog 153 = some 1 := by kernel_rfl
@[go_sem] theorem aggT153 : aggT Tryz.prog 153 = some false := by kernel_rfl
@[go_sem] theorem boolT153 : boolT Tryz.prog 153 = false := by kernel_rfl
@[go_sem] theorem zeroT153 : zeroT Tryz.prog 153 = some (.nilFunc) := by kernel_rfl
@[go_sem] theorem bytesT153 : bytesT Tryz.prog 153 = some 8 := by kernel_rfl
@[go_sem] theorem szT161 : szT Tryz.prog 161 = some 3 := by kernel_rfl
@[go_sem] theorem aggT161 : aggT Tryz.prog 161 = some true := by kernel_rfl
@[go_sem] theorem boolT161 : boolT Tryz.prog 161 = false := by kernel_rfl
@[go_sem] theorem fofT161_0 : fofT Tryz.prog 161 0 = some (0, 3, 1) := by kernel_rfl
@[go_sem] theorem fofT161_1 : fofT Tryz.prog 161 1 = some (1, 3, 1) := by kernel_rfl
@[go_sem] theorem fofT161_2 : fofT Tryz.prog 161 2 = some (2, 26, 1) := by kernel_rfl
@[go_sem] theorem zeroT161 : zeroT Tryz.prog 161 = some (.agg #[.int .i64 0, .int .i64 0, .slice none 0 0]) := by kernel_rfl
@[go_sem] theorem bytesT161 : bytesT Tryz.prog 161 = some 40 := by kernel_rfl
@[go_sem] theorem bldT161 : bldT Tryz.prog 161 = some ([.int .i64 0, .int .i64 0, .slice none 0 0], fun i => ([(0, 1), (1, 1), (2, 1)] : List (Nat × Nat))[i]?) := by kernel_rfl
@[go_sem] theorem szT163 : szT Tryz.prog 163 = some 2 := by kernel_rfl
@[go_sem] theorem aggT163 : aggT Tryz.prog 163 = some true := by kernel_rfl
@[go_sem] theorem boolT163 : boolT Tryz.prog 163 = false := by kernel_rfl
@[go_sem] theorem fofT163_0 : fofT Tryz.prog 163 0 = some (0, 26, 1) := by kernel_rfl
@[go_sem] theorem fofT163_1 : fofT Tryz.prog 163 1 = some (1, 26, 1) := by kernel_rfl
@[go_sem] theorem zeroT163 : zeroT Tryz.prog 163 = some (.agg #[.slice none 0 0, .slice none 0 0]) := by kernel_rfl
@[go_sem] theorem bytesT163 : bytesT Tryz.prog 163 = some 48 := by kernel_rfl
@[go_sem] theorem bldT163 : bldT Tryz.prog 163 = some ([.slice none 0 0, .slice none 0 0], fun i => ([(0, 1), (1, 1)] : List (Nat × Nat))[i]?) := by kernel_rfl
@[go_sem] theorem szT165 : szT Tryz.prog 165 = some 1 := by kernel_rfl
@[go_sem] theorem aggT165 : aggT Tryz.prog 165 = some false := by kernel_rfl
@[go_sem] theorem boolT165 : boolT Tryz.prog 165 = false := by kernel_rfl
@[go_sem] theorem zeroT165 : zeroT Tryz.prog 165 = some (.nilFunc) := by kernel_rfl
@[go_sem] theorem bytesT165 : bytesT Tryz.prog 165 = some 8 := by kernel_rfl
@[go_sem] theorem szT170 : szT Tryz.prog 170 = some 1 := by kernel_rfl
@[go_sem] theorem aggT170 : aggT Tryz.prog 170 = some false := by kernel_rfl
@[go_sem] theorem boolT170 : boolT Tryz.prog 170 = false := by kernel_rfl
@[go_sem] theorem kT170 : kT Tryz.prog 170 = some .u32 := by kernel_rfl
@[go_sem] theorem knT170 : knT Tryz.prog 170 = true := by kernel_rfl
@[go_sem] theorem zeroT170 : zeroT Tryz.prog 170 = some (.int .u32 0) := by kernel_rfl
@[go_sem] theorem bytesT170 : bytesT Tryz.prog 170 = some 4 := by kernel_rfl
@[go_sem] theorem szT172 : szT Tryz.prog 172 = some 1 := by kernel_rfl
@[go_sem] theorem aggT172 : aggT Tryz.prog 172 = some false := by kernel_rfl
@[go_sem] theorem boolT172 : boolT Tryz.prog 172 = false := by kernel_rfl
@[go_sem] theorem kT172 : kT Tryz.prog 172 = some .u64 := by kernel_rfl
@[go_sem] theorem knT172 : knT Tryz.prog 172 = true := by kernel_rfl
@[go_sem] theorem zeroT172 : zeroT Tryz.prog 172 = some (.int .u64 0) := by kernel_rfl
@[go_sem] theorem bytesT172 : bytesT Tryz.prog 172 = some 8 := by kernel_rfl
@[go_sem] theorem szT186 : szT Tryz.prog 186 = some 1 := by kernel_rfl
@[go_sem] theorem aggT186 : aggT Tryz.prog 186 = some false := by kernel_rfl
@[go_sem] theorem boolT186 : boolT Tryz.prog 186 = false := by kernel_rfl
@[go_sem] theorem zeroT186 : zeroT Tryz.prog 186 = some (.nilFunc) := by kernel_rfl
@[go_sem] theorem bytesT186 : bytesT Tryz.prog 186 = some 8 := by kernel_rfl
@[go_sem] theorem szT191 : szT Tryz.prog 191 = some 1 := by kernel_rfl
@[go_sem] theorem aggT191 : aggT Tryz.prog 191 = some false := by kernel_rfl
@[go_sem] theorem boolT191 : boolT Tryz.prog 191 = false := by kernel_rfl
@[go_sem] theorem zeroT191 : zeroT Tryz.prog 191 = some (.pointer none) := by kernel_rfl
@[go_sem] theorem bytesT191 : bytesT Tryz.prog 191 = some 8 := by kernel_rfl
@[go_sem] theorem szT194 : szT Tryz.prog 194 = some 5 := by kernel_rfl
@[go_sem] theorem aggT194 : aggT Tryz.prog 194 = some true := by kernel_rfl
@[go_sem] theorem boolT194 : boolT Tryz.prog 194 = false := by kernel_rfl
@[go_sem] theorem fofT194_0 : fofT Tryz.prog 194 0 = some (0, 3, 1) := by kernel_rfl
@[go_sem] theorem fofT194_1 : fofT Tryz.prog 194 1 = some (1, 3, 1) := by kernel_rfl
@[go_sem] theorem fofT194_2 : fofT Tryz.prog 194 2 = some (2, 3, 1) := by kernel_rfl
@[go_sem] theorem fofT194_3 : fofT Tryz.prog 194 3 = some (3, 3, 1) := by kernel_rfl
@[go_sem] theorem fofT194_4 : fofT Tryz.prog 194 4 = some (4, 3, 1) := by kernel_rfl
@[go_sem] theorem zeroT194 : zeroT Tryz.prog 194 = some (.agg #[.int .i64 0, .int .i64 0, .int .i64 0, .int .i64 0, .int .i64 0]) := by kernel_rfl
@[go_sem] theorem bytesT194 : bytesT Tryz.prog 194 = some 40 := by kernel_rfl
@[go_sem] theorem bldT194 : bldT Tryz.prog 194 = some ([.int .i64 0, .int .i64 0, .int .i64 0, .int .i64 0, .int .i64 0], fun i => ([(0, 1), (1, 1), (2, 1), (3, 1), (4, 1)] : List (Nat × Nat))[i]?) := by kernel_rfl
@[go_sem] theorem eqA194 (x0 y0 : Int) (x1 y1 : Int) (x2 y2 : Int) (x3 y3 : Int) (x4 y4 : Int) : eqA Tryz.prog 194 [.val (.int .i64 x0), .val (.int .i64 x1), .val (.int .i64 x2), .val (.int .i64 x3), .val (.int .i64 x4)] [.val (.int .i64 y0), .val (.int .i64 y1), .val (.int .i64 y2), .val (.int .i64 y3), .val (.int .i64 y4)] = some (x0 == y0 && (x1 == y1 && (x2 == y2 && (x3 == y3 && (x4 == y4 && true))))) := by kernel_rfl
@[go_sem] theorem szT195 : szT Tryz.prog 195 = some 40 := by kernel_rfl
@[go_sem] theorem aggT195 : aggT Tryz.prog 195 = some true := by kernel_rfl
@[go_sem] theorem boolT195 : boolT Tryz.prog 195 = false := by kernel_rfl
@[go_sem] theorem arT195 : arT Tryz.prog 195 = some (8, 194, 5) := by kernel_rfl
@[go_sem] theorem zeroT195 : zeroT Tryz.prog 195 = some (.agg (List.replicate 40 (.int .i64 0)).toArray) := by kernel_rfl
@[go_sem] theorem bytesT195 : bytesT Tryz.prog 195 = some 320 := by kernel_rfl
@[go_sem] theorem szT196 : szT Tryz.prog 196 = some 32 := by kernel_rfl
@[go_sem] theorem aggT196 : aggT Tryz.prog 196 = some true := by kernel_rfl
@[go_sem] theorem boolT196 : boolT Tryz.prog 196 = false := by kernel_rfl
@[go_sem] theorem arT196 : arT Tryz.prog 196 = some (32, 5, 1) := by kernel_rfl
@[go_sem] theorem zeroT196 : zeroT Tryz.prog 196 = some (.agg (List.replicate 32 (.int .u8 0)).toArray) := by kernel_rfl
@[go_sem] theorem bytesT196 : bytesT Tryz.prog 196 = some 32 := by kernel_rfl
@[go_sem] theorem szT197 : szT Tryz.prog 197 = some 64 := by kernel_rfl
@[go_sem] theorem aggT197 : aggT Tryz.prog 197 = some true := by kernel_rfl
@[go_sem] theorem boolT197 : boolT Tryz.prog 197 = false := by kernel_rfl
@[go_sem] theorem arT197 : arT Tryz.prog 197 = some (64, 5, 1) := by kernel_rfl
@[go_sem] theorem zeroT197 : zeroT Tryz.prog 197 = some (.agg (List.replicate 64 (.int .u8 0)).toArray) := by kernel_rfl
@[go_sem] theorem bytesT197 : bytesT Tryz.prog 197 = some 64 := by kernel_rfl
@[go_sem] theorem szT209 : szT Tryz.prog 209 = some 1 := by kernel_rfl
@[go_sem] theorem aggT209 : aggT Tryz.prog 209 = some false := by kernel_rfl
@[go_sem] theorem boolT209 : boolT Tryz.prog 209 = false := by kernel_rfl
@[go_sem] theorem zeroT209 : zeroT Tryz.prog 209 = some (.pointer none) := by kernel_rfl
@[go_sem] theorem bytesT209 : bytesT Tryz.prog 209 = some 8 := by kernel_rfl
@[go_sem] theorem szT211 : szT Tryz.prog 211 = some 1 := by kernel_rfl
@[go_sem] theorem aggT211 : aggT Tryz.prog 211 = some false := by kernel_rfl
@[go_sem] theorem boolT211 : boolT Tryz.prog 211 = false := by kernel_rfl
@[go_sem] theorem kT211 : kT Tryz.prog 211 = some .u16 := by kernel_rfl
@[go_sem] theorem knT211 : knT Tryz.prog 211 = true := by kernel_rfl
@[go_sem] theorem zeroT211 : zeroT Tryz.prog 211 = some (.int .u16 0) := by kernel_rfl
@[go_sem] theorem bytesT211 : bytesT Tryz.prog 211 = some 2 := by kernel_rfl
@[go_sem] theorem szT213 : szT Tryz.prog 213 = some 1 := by kernel_rfl
@[go_sem] theorem aggT213 : aggT Tryz.prog 213 = some false := by kernel_rfl
@[go_sem] theorem boolT213 : boolT Tryz.prog 213 = false := by kernel_rfl
@[go_sem] theorem zeroT213 : zeroT Tryz.prog 213 = some (.nilFunc) := by kernel_rfl
@[go_sem] theorem bytesT213 : bytesT Tryz.prog 213 = some 8 := by kernel_rfl
@[go_sem] theorem szT215 : szT Tryz.prog 215 = some 9 := by kernel_rfl
@[go_sem] theorem aggT215 : aggT Tryz.prog 215 = some true := by kernel_rfl
@[go_sem] theorem boolT215 : boolT Tryz.prog 215 = false := by kernel_rfl
@[go_sem] theorem fofT215_0 : fofT Tryz.prog 215 0 = some (0, 161, 3) := by kernel_rfl
@[go_sem] theorem fofT215_1 : fofT Tryz.prog 215 1 = some (3, 163, 2) := by kernel_rfl
@[go_sem] theorem fofT215_2 : fofT Tryz.prog 215 2 = some (5, 211, 1) := by kernel_rfl
@[go_sem] theorem fofT215_3 : fofT Tryz.prog 215 3 = some (6, 25, 1) := by kernel_rfl
@[go_sem] theorem fofT215_4 : fofT Tryz.prog 215 4 = some (7, 186, 1) := by kernel_rfl
@[go_sem] theorem fofT215_5 : fofT Tryz.prog 215 5 = some (8, 213, 1) := by kernel_rfl
@[go_sem] theorem zeroT215 : zeroT Tryz.prog 215 = some (.agg #[.int .i64 0, .int .i64 0, .slice none 0 0, .slice none 0 0, .slice none 0 0, .int .u16 0, .slice none 0 0, .nilFunc, .nilFunc]) := by kernel_rfl
@[go_sem] theorem bytesT215 : bytesT Tryz.prog 215 = some 136 := by kernel_rfl
@[go_sem] theorem bldT215 : bldT Tryz.prog 215 = some ([.int .i64 0, .int .i64 0, .slice none 0 0, .slice none 0 0, .slice none 0 0, .int .u16 0, .slice none 0 0, .nilFunc, .nilFunc], fun i => ([(0, 3), (3, 2), (5, 1), (6, 1), (7, 1), (8, 1)] : List (Nat × Nat))[i]?) := by kernel_rfl
@[go_sem] theorem szT216 : szT Tryz.prog 216 = some 5 := by kernel_rfl
@[go_sem] theorem aggT216 : aggT Tryz.prog 216 = some true := by kernel_rfl
@[go_sem] theorem boolT216 : boolT Tryz.prog 216 = false := by kernel_rfl
@[go_sem] theorem arT216 : arT Tryz.prog 216 = some (5, 3, 1) := by kernel_rfl
@[go_sem] theorem zeroT216 : zeroT Tryz.prog 216 = some (.agg #[.int .i64 0, .int .i64 0, .int .i64 0, .int .i64 0, .int .i64 0]) := by kernel_rfl
@[go_sem] theorem bytesT216 : bytesT Tryz.prog 216 = some 40 := by kernel_rfl
@[go_sem] theorem bldT216 : bldT Tryz.prog 216 = some ([.int .i64 0, .int .i64 0, .int .i64 0, .int .i64 0, .int .i64 0], fun i => some (i * 1, 1)) := by kernel_rfl
@[go_sem] theorem szT224 : szT Tryz.prog 224 = some 320 := by kernel_rfl
@[go_sem] theorem aggT224 : aggT Tryz.prog 224 = some true := by kernel_rfl
@[go_sem] theorem boolT224 : boolT Tryz.prog 224 = false := by kernel_rfl
@[go_sem] theorem arT224 : arT Tryz.prog 224 = some (8, 195, 40) := by kernel_rfl
@[go_sem] theorem zeroT224 : zeroT Tryz.prog 224 = some (.agg (List.replicate 320 (.int .i64 0)).toArray) := by kernel_rfl
@[go_sem] theorem bytesT224 : bytesT Tryz.prog 224 = some 2560 := by kernel_rfl
@[go_sem] theorem szT226 : szT Tryz.prog 226 = some 1 := by kernel_rfl
@[go_sem] theorem aggT226 : aggT Tryz.prog 226 = some false := by kernel_rfl
@[go_sem] theorem boolT226 : boolT Tryz.prog 226 = false := by kernel_rfl
@[go_sem] theorem zeroT226 : zeroT Tryz.prog 226 = some (.nilFunc) := by kernel_rfl
@[go_sem] theorem bytesT226 : bytesT Tryz.prog 226 = some 8 := by kernel_rfl
attribute [go_sem] beq_self_eq_true Option.all_some Option.all_none Option.some_beq_some Bool.and_self List.size_toArray cond_true cond_false beq_true beq_false bne_self_eq_false List.append_eq
attribute [go_sem] Tryz.results3 Tryz.results4 Tryz.results5 Tryz.results6 Tryz.results7 Tryz.results8 Tryz.results9 Tryz.results10 Tryz.results11 Tryz.results12 Tryz.results13 Tryz.results14 Tryz.results15 Tryz.results16 Tryz.results17 Tryz.results18 Tryz.results19 Tryz.results20 Tryz.results21 Tryz.results22 Tryz.results23 Tryz.results24 Tryz.results25 Tryz.results26 Tryz.results27 Tryz.results28 Tryz.results29 Tryz.results30 Tryz.results31 Tryz.results32 Tryz.results33 Tryz.results34 Tryz.results35 Tryz.results36 Tryz.results37 Tryz.results38 Tryz.results39 Tryz.results40 Tryz.results41 Tryz.results42 Tryz.results43 Tryz.results44 Tryz.results45 Tryz.results46 Tryz.results47 Tryz.results48 Tryz.results49 Tryz.results50 Tryz.results51 Tryz.results52 Tryz.results53 Tryz.results54 Tryz.results55 Tryz.results56 Tryz.results57 Tryz.results58 Tryz.results59 Tryz.results60 Tryz.results61 Tryz.results62 Tryz.results63 Tryz.results64 Tryz.results65 Tryz.results66 Tryz.results67 Tryz.results68 Tryz.results69 Tryz.results70 Tryz.results71 Tryz.results72 Tryz.results73 Tryz.results74 Tryz.results75 Tryz.results76 Tryz.results77 Tryz.results78 Tryz.results79 Tryz.results80 Tryz.results81 Tryz.results82 Tryz.results83 Tryz.results84 Tryz.results85 Tryz.results86 Tryz.results87 Tryz.results88 Tryz.results90 Tryz.results91 Tryz.results92 Tryz.results93 Tryz.results94 Tryz.results95 Tryz.results96 Tryz.results97 Tryz.results98 Tryz.results99 Tryz.results100 Tryz.results101 Tryz.results102 Tryz.results103 Tryz.results104 Tryz.results105 Tryz.results106 Tryz.results107 Tryz.results109 Tryz.results110 Tryz.results111 Tryz.results120 Tryz.results121 Tryz.results122 Tryz.results123 Tryz.results124 Tryz.results125 Tryz.results126 Tryz.results127 Tryz.results128 Tryz.results129 Tryz.results130 Tryz.results131 Tryz.results132 Tryz.results133 Tryz.results134 Tryz.results135 Tryz.results149 Tryz.results150 Tryz.results151 Tryz.results152 Tryz.results153 Tryz.results154 Tryz.results155 Tryz.results156 Tryz.results157 Tryz.results158 Tryz.results159 Tryz.results160 Tryz.results162 Tryz.results163 Tryz.results164 Tryz.results165 Tryz.results170 Tryz.results171 Tryz.results172 Tryz.results192 Tryz.results215 Tryz.results216 Tryz.results217 Tryz.results218 Tryz.results220 Tryz.results221 Tryz.results222 Tryz.results223
end Go.V
