/-
  Facts of types. Conditions: none.
-/
import Derived.Test.YtaphkenfcnocbaaDoorVCalls
import Derived.KernelRfl
import Derived.Test.YtaphkenfcnocbaaDoorProg
set_option linter.unusedVariables false
set_option linter.unusedSimpArgs false
set_option linter.deprecated false
namespace Go.V
open Go.Proofs
set_option linter.unusedVariables false

theorem mixed : Tryd.prog.follows .mixedOrders = true := by kernel_rfl
@[go_sem] theorem szT3 : szT Tryd.prog 3 = some 1 := by kernel_rfl
@[go_sem] theorem aggT3 : aggT Tryd.prog 3 = some false := by kernel_rfl
@[go_sem] theorem boolT3 : boolT Tryd.prog 3 = false := by kernel_rfl
@[go_sem] theorem kT3 : kT Tryd.prog 3 = some .i64 := by kernel_rfl
@[go_sem] theorem knT3 : knT Tryd.prog 3 = true := by kernel_rfl
@[go_sem] theorem zeroT3 : zeroT Tryd.prog 3 = some (.int .i64 0) := by kernel_rfl
@[go_sem] theorem bytesT3 : bytesT Tryd.prog 3 = some 8 := by kernel_rfl
@[go_sem] theorem szT4 : szT Tryd.prog 4 = some 1 := by kernel_rfl
@[go_sem] theorem aggT4 : aggT Tryd.prog 4 = some false := by kernel_rfl
@[go_sem] theorem boolT4 : boolT Tryd.prog 4 = true := by kernel_rfl
@[go_sem] theorem zeroT4 : zeroT Tryd.prog 4 = some (.bool false) := by kernel_rfl
@[go_sem] theorem bytesT4 : bytesT Tryd.prog 4 = some 1 := by kernel_rfl
@[go_sem] theorem szT5 : szT Tryd.prog 5 = some 1 := by kernel_rfl
@[go_sem] theorem aggT5 : aggT Tryd.prog 5 = some false := by kernel_rfl
@[go_sem] theorem boolT5 : boolT Tryd.prog 5 = false := by kernel_rfl
@[go_sem] theorem kT5 : kT Tryd.prog 5 = some .u8 := by kernel_rfl
@[go_sem] theorem knT5 : knT Tryd.prog 5 = true := by kernel_rfl
@[go_sem] theorem zeroT5 : zeroT Tryd.prog 5 = some (.int .u8 0) := by kernel_rfl
@[go_sem] theorem bytesT5 : bytesT Tryd.prog 5 = some 1 := by kernel_rfl
@[go_sem] theorem szT9 : szT Tryd.prog 9 = some 1 := by kernel_rfl
@[go_sem] theorem aggT9 : aggT Tryd.prog 9 = some false := by kernel_rfl
@[go_sem] theorem boolT9 : boolT Tryd.prog 9 = false := by kernel_rfl
@[go_sem] theorem strT9 : Tryd.prog.underlying 9 = some .string := by kernel_rfl
@[go_sem] theorem bytesT9 : bytesT Tryd.prog 9 = some 16 := by kernel_rfl
@[go_sem] theorem szT22 : szT Tryd.prog 22 = some 1 := by kernel_rfl
@[go_sem] theorem aggT22 : aggT Tryd.prog 22 = some false := by kernel_rfl
@[go_sem] theorem boolT22 : boolT Tryd.prog 22 = false := by kernel_rfl
@[go_sem] theorem slT22 : slT Tryd.prog 22 = some (3, 1) := by kernel_rfl
@[go_sem] theorem zeroT22 : zeroT Tryd.prog 22 = some (.slice none 0 0) := by kernel_rfl
@[go_sem] theorem bytesT22 : bytesT Tryd.prog 22 = some 24 := by kernel_rfl
@[go_sem] theorem szT24 : szT Tryd.prog 24 = some 3 := by kernel_rfl
@[go_sem] theorem aggT24 : aggT Tryd.prog 24 = some true := by kernel_rfl
@[go_sem] theorem boolT24 : boolT Tryd.prog 24 = false := by kernel_rfl
@[go_sem] theorem fofT24_0 : fofT Tryd.prog 24 0 = some (0, 3, 1) := by kernel_rfl
@[go_sem] theorem fofT24_1 : fofT Tryd.prog 24 1 = some (1, 3, 1) := by kernel_rfl
@[go_sem] theorem fofT24_2 : fofT Tryd.prog 24 2 = some (2, 22, 1) := by kernel_rfl
@[go_sem] theorem zeroT24 : zeroT Tryd.prog 24 = some (.agg #[.int .i64 0, .int .i64 0, .slice none 0 0]) := by kernel_rfl
@[go_sem] theorem bytesT24 : bytesT Tryd.prog 24 = some 40 := by kernel_rfl
@[go_sem] theorem bldT24 : bldT Tryd.prog 24 = some ([.int .i64 0, .int .i64 0, .slice none 0 0], fun i => ([(0, 1), (1, 1), (2, 1)] : List (Nat × Nat))[i]?) := by kernel_rfl
@[go_sem] theorem szT27 : szT Tryd.prog 27 = some 2 := by kernel_rfl
@[go_sem] theorem aggT27 : aggT Tryd.prog 27 = some true := by kernel_rfl
@[go_sem] theorem boolT27 : boolT Tryd.prog 27 = false := by kernel_rfl
@[go_sem] theorem fofT27_0 : fofT Tryd.prog 27 0 = some (0, 22, 1) := by kernel_rfl
@[go_sem] theorem fofT27_1 : fofT Tryd.prog 27 1 = some (1, 22, 1) := by kernel_rfl
@[go_sem] theorem zeroT27 : zeroT Tryd.prog 27 = some (.agg #[.slice none 0 0, .slice none 0 0]) := by kernel_rfl
@[go_sem] theorem bytesT27 : bytesT Tryd.prog 27 = some 48 := by kernel_rfl
@[go_sem] theorem bldT27 : bldT Tryd.prog 27 = some ([.slice none 0 0, .slice none 0 0], fun i => ([(0, 1), (1, 1)] : List (Nat × Nat))[i]?) := by kernel_rfl
@[go_sem] theorem szT28 : szT Tryd.prog 28 = some 1 := by kernel_rfl
@[go_sem] theorem aggT28 : aggT Tryd.prog 28 = some false := by kernel_rfl
@[go_sem] theorem boolT28 : boolT Tryd.prog 28 = false := by kernel_rfl
@[go_sem] theorem kT28 : kT Tryd.prog 28 = some .i64 := by kernel_rfl
@[go_sem] theorem knT28 : knT Tryd.prog 28 = true := by kernel_rfl
@[go_sem] theorem zeroT28 : zeroT Tryd.prog 28 = some (.int .i64 0) := by kernel_rfl
@[go_sem] theorem bytesT28 : bytesT Tryd.prog 28 = some 8 := by kernel_rfl
@[go_sem] theorem szT37 : szT Tryd.prog 37 = some 2 := by kernel_rfl
@[go_sem] theorem aggT37 : aggT Tryd.prog 37 = some true := by kernel_rfl
@[go_sem] theorem boolT37 : boolT Tryd.prog 37 = false := by kernel_rfl
@[go_sem] theorem arT37 : arT Tryd.prog 37 = some (2, 3, 1) := by kernel_rfl
@[go_sem] theorem zeroT37 : zeroT Tryd.prog 37 = some (.agg #[.int .i64 0, .int .i64 0]) := by kernel_rfl
@[go_sem] theorem bytesT37 : bytesT Tryd.prog 37 = some 16 := by kernel_rfl
@[go_sem] theorem bldT37 : bldT Tryd.prog 37 = some ([.int .i64 0, .int .i64 0], fun i => some (i * 1, 1)) := by kernel_rfl
@[go_sem] theorem szT38 : szT Tryd.prog 38 = some 1 := by kernel_rfl
@[go_sem] theorem aggT38 : aggT Tryd.prog 38 = some false := by kernel_rfl
@[go_sem] theorem boolT38 : boolT Tryd.prog 38 = false := by kernel_rfl
@[go_sem] theorem slT38 : slT Tryd.prog 38 = some (37, 2) := by kernel_rfl
@[go_sem] theorem zeroT38 : zeroT Tryd.prog 38 = some (.slice none 0 0) := by kernel_rfl
@[go_sem] theorem bytesT38 : bytesT Tryd.prog 38 = some 24 := by kernel_rfl
@[go_sem] theorem szT39 : szT Tryd.prog 39 = some 1 := by kernel_rfl
@[go_sem] theorem aggT39 : aggT Tryd.prog 39 = some false := by kernel_rfl
@[go_sem] theorem boolT39 : boolT Tryd.prog 39 = false := by kernel_rfl
@[go_sem] theorem mapT39 : mapT Tryd.prog 39 = some (.i64, 3) := by kernel_rfl
@[go_sem] theorem zeroT39 : zeroT Tryd.prog 39 = some (.map none) := by kernel_rfl
@[go_sem] theorem bytesT39 : bytesT Tryd.prog 39 = some 8 := by kernel_rfl
@[go_sem] theorem szT41 : szT Tryd.prog 41 = some 2 := by kernel_rfl
@[go_sem] theorem aggT41 : aggT Tryd.prog 41 = some true := by kernel_rfl
@[go_sem] theorem boolT41 : boolT Tryd.prog 41 = false := by kernel_rfl
@[go_sem] theorem fofT41_0 : fofT Tryd.prog 41 0 = some (0, 3, 1) := by kernel_rfl
@[go_sem] theorem fofT41_1 : fofT Tryd.prog 41 1 = some (1, 38, 1) := by kernel_rfl
@[go_sem] theorem zeroT41 : zeroT Tryd.prog 41 = some (.agg #[.int .i64 0, .slice none 0 0]) := by kernel_rfl
@[go_sem] theorem bytesT41 : bytesT Tryd.prog 41 = some 32 := by kernel_rfl
@[go_sem] theorem bldT41 : bldT Tryd.prog 41 = some ([.int .i64 0, .slice none 0 0], fun i => ([(0, 1), (1, 1)] : List (Nat × Nat))[i]?) := by kernel_rfl
@[go_sem] theorem szT47 : szT Tryd.prog 47 = some 1 := by kernel_rfl
@[go_sem] theorem aggT47 : aggT Tryd.prog 47 = some false := by kernel_rfl
@[go_sem] theorem boolT47 : boolT Tryd.prog 47 = false := by kernel_rfl
@[go_sem] theorem slT47 : slT Tryd.prog 47 = some (22, 1) := by kernel_rfl
@[go_sem] theorem zeroT47 : zeroT Tryd.prog 47 = some (.slice none 0 0) := by kernel_rfl
@[go_sem] theorem bytesT47 : bytesT Tryd.prog 47 = some 24 := by kernel_rfl
@[go_sem] theorem szT51 : szT Tryd.prog 51 = some 8 := by kernel_rfl
@[go_sem] theorem aggT51 : aggT Tryd.prog 51 = some true := by kernel_rfl
@[go_sem] theorem boolT51 : boolT Tryd.prog 51 = false := by kernel_rfl
@[go_sem] theorem arT51 : arT Tryd.prog 51 = some (8, 5, 1) := by kernel_rfl
@[go_sem] theorem zeroT51 : zeroT Tryd.prog 51 = some (.agg #[.int .u8 0, .int .u8 0, .int .u8 0, .int .u8 0, .int .u8 0, .int .u8 0, .int .u8 0, .int .u8 0]) := by kernel_rfl
@[go_sem] theorem bytesT51 : bytesT Tryd.prog 51 = some 8 := by kernel_rfl
@[go_sem] theorem bldT51 : bldT Tryd.prog 51 = some ([.int .u8 0, .int .u8 0, .int .u8 0, .int .u8 0, .int .u8 0, .int .u8 0, .int .u8 0, .int .u8 0], fun i => some (i * 1, 1)) := by kernel_rfl
@[go_sem] theorem szT59 : szT Tryd.prog 59 = some 8 := by kernel_rfl
@[go_sem] theorem aggT59 : aggT Tryd.prog 59 = some true := by kernel_rfl
@[go_sem] theorem boolT59 : boolT Tryd.prog 59 = false := by kernel_rfl
@[go_sem] theorem arT59 : arT Tryd.prog 59 = some (8, 3, 1) := by kernel_rfl
@[go_sem] theorem zeroT59 : zeroT Tryd.prog 59 = some (.agg #[.int .i64 0, .int .i64 0, .int .i64 0, .int .i64 0, .int .i64 0, .int .i64 0, .int .i64 0, .int .i64 0]) := by kernel_rfl
@[go_sem] theorem bytesT59 : bytesT Tryd.prog 59 = some 64 := by kernel_rfl
@[go_sem] theorem bldT59 : bldT Tryd.prog 59 = some ([.int .i64 0, .int .i64 0, .int .i64 0, .int .i64 0, .int .i64 0, .int .i64 0, .int .i64 0, .int .i64 0], fun i => some (i * 1, 1)) := by kernel_rfl
@[go_sem] theorem szT60 : szT Tryd.prog 60 = some 1 := by kernel_rfl
@[go_sem] theorem aggT60 : aggT Tryd.prog 60 = some false := by kernel_rfl
@[go_sem] theorem boolT60 : boolT Tryd.prog 60 = false := by kernel_rfl
@[go_sem] theorem zeroT60 : zeroT Tryd.prog 60 = some (.pointer none) := by kernel_rfl
@[go_sem] theorem bytesT60 : bytesT Tryd.prog 60 = some 8 := by kernel_rfl
@[go_sem] theorem szT66 : szT Tryd.prog 66 = some 1 := by kernel_rfl
@[go_sem] theorem aggT66 : aggT Tryd.prog 66 = some false := by kernel_rfl
@[go_sem] theorem boolT66 : boolT Tryd.prog 66 = false := by kernel_rfl
@[go_sem] theorem zeroT66 : zeroT Tryd.prog 66 = some (.nilFunc) := by kernel_rfl
@[go_sem] theorem bytesT66 : bytesT Tryd.prog 66 = some 8 := by kernel_rfl
@[go_sem] theorem szT67 : szT Tryd.prog 67 = some 1 := by kernel_rfl
@[go_sem] theorem aggT67 : aggT Tryd.prog 67 = some false := by kernel_rfl
@[go_sem] theorem boolT67 : boolT Tryd.prog 67 = false := by kernel_rfl
@[go_sem] theorem zeroT67 : zeroT Tryd.prog 67 = some (.nilFunc) := by kernel_rfl
@[go_sem] theorem bytesT67 : bytesT Tryd.prog 67 = some 8 := by kernel_rfl
@[go_sem] theorem szT69 : szT Tryd.prog 69 = some 1 := by kernel_rfl
@[go_sem] theorem aggT69 : aggT Tryd.prog 69 = some false := by kernel_rfl
@[go_sem] theorem boolT69 : boolT Tryd.prog 69 = false := by kernel_rfl
@[go_sem] theorem zeroT69 : zeroT Tryd.prog 69 = some (.nilFunc) := by kernel_rfl
@[go_sem] theorem bytesT69 : bytesT Tryd.prog 69 = some 8 := by kernel_rfl
@[go_sem] theorem szT70 : szT Tryd.prog 70 = some 1 := by kernel_rfl
@[go_sem] theorem aggT70 : aggT Tryd.prog 70 = some false := by kernel_rfl
@[go_sem] theorem boolT70 : boolT Tryd.prog 70 = false := by kernel_rfl
@[go_sem] theorem kT70 : kT Tryd.prog 70 = some .u64 := by kernel_rfl
@[go_sem] theorem knT70 : knT Tryd.prog 70 = true := by kernel_rfl
@[go_sem] theorem zeroT70 : zeroT Tryd.prog 70 = some (.int .u64 0) := by kernel_rfl
@[go_sem] theorem bytesT70 : bytesT Tryd.prog 70 = some 8 := by kernel_rfl
@[go_sem] theorem szT72 : szT Tryd.prog 72 = some 2 := by kernel_rfl
@[go_sem] theorem aggT72 : aggT Tryd.prog 72 = some true := by kernel_rfl
@[go_sem] theorem boolT72 : boolT Tryd.prog 72 = false := by kernel_rfl
@[go_sem] theorem arT72 : arT Tryd.prog 72 = some (2, 70, 1) := by kernel_rfl
@[go_sem] theorem zeroT72 : zeroT Tryd.prog 72 = some (.agg #[.int .u64 0, .int .u64 0]) := by kernel_rfl
@[go_sem] theorem bytesT72 : bytesT Tryd.prog 72 = some 16 := by kernel_rfl
@[go_sem] theorem bldT72 : bldT Tryd.prog 72 = some ([.int .u64 0, .int .u64 0], fun i => some (i * 1, 1)) := by kernel_rfl
@[go_sem] theorem szT76 : szT Tryd.prog 76 = some 1 := by kernel_rfl
@[go_sem] theorem aggT76 : aggT Tryd.prog 76 = some false := by kernel_rfl
@[go_sem] theorem boolT76 : boolT Tryd.prog 76 = false := by kernel_rfl
@[go_sem] theorem zeroT76 : zeroT Tryd.prog 76 = some (.nilFunc) := by kernel_rfl
@[go_sem] theorem bytesT76 : bytesT Tryd.prog 76 = some 8 := by kernel_rfl
@[go_sem] theorem szT78 : szT Tryd.prog 78 = some 1 := by kernel_rfl
@[go_sem] theorem aggT78 : aggT Tryd.prog 78 = some false := by kernel_rfl
@[go_sem] theorem boolT78 : boolT Tryd.prog 78 = false := by kernel_rfl
@[go_sem] theorem slT78 : slT Tryd.prog 78 = some (70, 1) := by kernel_rfl
@[go_sem] theorem zeroT78 : zeroT Tryd.prog 78 = some (.slice none 0 0) := by kernel_rfl
@[go_sem] theorem bytesT78 : bytesT Tryd.prog 78 = some 24 := by kernel_rfl
@[go_sem] theorem szT80 : szT Tryd.prog 80 = some 1 := by kernel_rfl
@[go_sem] theorem aggT80 : aggT Tryd.prog 80 = some false := by kernel_rfl
@[go_sem] theorem boolT80 : boolT Tryd.prog 80 = false := by kernel_rfl
@[go_sem] theorem zeroT80 : zeroT Tryd.prog 80 = some (.nilFunc) := by kernel_rfl
@[go_sem] theorem bytesT80 : bytesT Tryd.prog 80 = some 8 := by kernel_rfl
@[go_sem] theorem szT83 : szT Tryd.prog 83 = some 1 := by kernel_rfl
@[go_sem] theorem aggT83 : aggT Tryd.prog 83 = some false := by kernel_rfl
@[go_sem] theorem boolT83 : boolT Tryd.prog 83 = false := by kernel_rfl
@[go_sem] theorem zeroT83 : zeroT Tryd.prog 83 = some (.nilFunc) := by kernel_rfl
@[go_sem] theorem bytesT83 : bytesT Tryd.prog 83 = some 8 := by kernel_rfl
@[go_sem] theorem szT84 : szT Tryd.prog 84 = some 1 := by kernel_rfl
@[go_sem] theorem aggT84 : aggT Tryd.prog 84 = some false := by kernel_rfl
@[go_sem] theorem boolT84 : boolT Tryd.prog 84 = false := by kernel_rfl
@[go_sem] theorem mapT84 : mapT Tryd.prog 84 = some (.u64, 3) := by kernel_rfl
@[go_sem] theorem zeroT84 : zeroT Tryd.prog 84 = some (.map none) := by kernel_rfl
@[go_sem] theorem bytesT84 : bytesT Tryd.prog 84 = some 8 := by kernel_rfl
@[go_sem] theorem szT86 : szT Tryd.prog 86 = some 1 := by kernel_rfl
@[go_sem] theorem aggT86 : aggT Tryd.prog 86 = some false := by kernel_rfl
@[go_sem] theorem boolT86 : boolT Tryd.prog 86 = false := by kernel_rfl
@[go_sem] theorem zeroT86 : zeroT Tryd.prog 86 = some (.pointer none) := by kernel_rfl
@[go_sem] theorem bytesT86 : bytesT Tryd.prog 86 = some 8 := by kernel_rfl
@[go_sem] theorem szT89 : szT Tryd.prog 89 = some 1 := by kernel_rfl
@[go_sem] theorem aggT89 : aggT Tryd.prog 89 = some false := by kernel_rfl
@[go_sem] theorem boolT89 : boolT Tryd.prog 89 = false := by kernel_rfl
@[go_sem] theorem zeroT89 : zeroT Tryd.prog 89 = some (.pointer none) := by kernel_rfl
@[go_sem] theorem bytesT89 : bytesT Tryd.prog 89 = some 8 := by kernel_rfl
@[go_sem] theorem szT90 : szT Tryd.prog 90 = some 5 := by kernel_rfl
@[go_sem] theorem aggT90 : aggT Tryd.prog 90 = some true := by kernel_rfl
@[go_sem] theorem boolT90 : boolT Tryd.prog 90 = false := by kernel_rfl
@[go_sem] theorem arT90 : arT Tryd.prog 90 = some (5, 3, 1) := by kernel_rfl
@[go_sem] theorem zeroT90 : zeroT Tryd.prog 90 = some (.agg #[.int .i64 0, .int .i64 0, .int .i64 0, .int .i64 0, .int .i64 0]) := by kernel_rfl
@[go_sem] theorem bytesT90 : bytesT Tryd.prog 90 = some 40 := by kernel_rfl
@[go_sem] theorem bldT90 : bldT Tryd.prog 90 = some ([.int .i64 0, .int .i64 0, .int .i64 0, .int .i64 0, .int .i64 0], fun i => some (i * 1, 1)) := by kernel_rfl
@[go_sem] theorem szT91 : szT Tryd.prog 91 = some 25 := by kernel_rfl
@[go_sem] theorem aggT91 : aggT Tryd.prog 91 = some true := by kernel_rfl
@[go_sem] theorem boolT91 : boolT Tryd.prog 91 = false := by kernel_rfl
@[go_sem] theorem arT91 : arT Tryd.prog 91 = some (5, 90, 5) := by kernel_rfl
@[go_sem] theorem zeroT91 : zeroT Tryd.prog 91 = some (.agg (List.replicate 25 (.int .i64 0)).toArray) := by kernel_rfl
@[go_sem] theorem bytesT91 : bytesT Tryd.prog 91 = some 200 := by kernel_rfl
@[go_sem] theorem szT93 : szT Tryd.prog 93 = some 28 := by kernel_rfl
@[go_sem] theorem aggT93 : aggT Tryd.prog 93 = some true := by kernel_rfl
@[go_sem] theorem boolT93 : boolT Tryd.prog 93 = false := by kernel_rfl
@[go_sem] theorem fofT93_0 : fofT Tryd.prog 93 0 = some (0, 3, 1) := by kernel_rfl
@[go_sem] theorem fofT93_1 : fofT Tryd.prog 93 1 = some (1, 3, 1) := by kernel_rfl
@[go_sem] theorem fofT93_2 : fofT Tryd.prog 93 2 = some (2, 4, 1) := by kernel_rfl
@[go_sem] theorem fofT93_3 : fofT Tryd.prog 93 3 = some (3, 91, 25) := by kernel_rfl
@[go_sem] theorem zeroT93 : zeroT Tryd.prog 93 = some (.agg #[.int .i64 0, .int .i64 0, .bool false, .int .i64 0, .int .i64 0, .int .i64 0, .int .i64 0, .int .i64 0, .int .i64 0, .int .i64 0, .int .i64 0, .int .i64 0, .int .i64 0, .int .i64 0, .int .i64 0, .int .i64 0, .int .i64 0, .int .i64 0, .int .i64 0, .int .i64 0, .int .i64 0, .int .i64 0, .int .i64 0, .int .i64 0, .int .i64 0, .int .i64 0, .int .i64 0, .int .i64 0]) := by kernel_rfl
@[go_sem] theorem bytesT93 : bytesT Tryd.prog 93 = some 224 := by kernel_rfl
@[go_sem] theorem bldT93 : bldT Tryd.prog 93 = some ([.int .i64 0, .int .i64 0, .bool false, .int .i64 0, .int .i64 0, .int .i64 0, .int .i64 0, .int .i64 0, .int .i64 0, .int .i64 0, .int .i64 0, .int .i64 0, .int .i64 0, .int .i64 0, .int .i64 0, .int .i64 0, .int .i64 0, .int .i64 0, .int .i64 0, .int .i64 0, .int .i64 0, .int .i64 0, .int .i64 0, .int .i64 0, .int .i64 0, .int .i64 0, .int .i64 0, .int .i64 0], fun i => ([(0, 1), (1, 1), (2, 1), (3, 25)] : List (Nat × Nat))[i]?) := by kernel_rfl
@[go_sem] theorem szT99 : szT Tryd.prog 99 = some 64 := by kernel_rfl
@[go_sem] theorem aggT99 : aggT Tryd.prog 99 = some true := by kernel_rfl
@[go_sem] theorem boolT99 : boolT Tryd.prog 99 = false := by kernel_rfl
@[go_sem] theorem arT99 : arT Tryd.prog 99 = some (8, 59, 8) := by kernel_rfl
@[go_sem] theorem zeroT99 : zeroT Tryd.prog 99 = some (.agg (List.replicate 64 (.int .i64 0)).toArray) := by kernel_rfl
@[go_sem] theorem bytesT99 : bytesT Tryd.prog 99 = some 512 := by kernel_rfl
@[go_sem] theorem szT101 : szT Tryd.prog 101 = some 1 := by kernel_rfl
@[go_sem] theorem aggT101 : aggT Tryd.prog 101 = some false := by kernel_rfl
@[go_sem] theorem boolT101 : boolT Tryd.prog 101 = false := by kernel_rfl
@[go_sem] theorem zeroT101 : zeroT Tryd.prog 101 = some (.nilFunc) := by kernel_rfl
@[go_sem] theorem bytesT101 : bytesT Tryd.prog 101 = some 8 := by kernel_rfl
@[go_sem] theorem szT105 : szT Tryd.prog 105 = some 1 := by kernel_rfl
@[go_sem] theorem aggT105 : aggT Tryd.prog 105 = some false := by kernel_rfl
@[go_sem] theorem boolT105 : boolT Tryd.prog 105 = false := by kernel_rfl
@[go_sem] theorem kT105 : kT Tryd.prog 105 = some .u16 := by kernel_rfl
@[go_sem] theorem knT105 : knT Tryd.prog 105 = true := by kernel_rfl
@[go_sem] theorem zeroT105 : zeroT Tryd.prog 105 = some (.int .u16 0) := by kernel_rfl
@[go_sem] theorem bytesT105 : bytesT Tryd.prog 105 = some 2 := by kernel_rfl
@[go_sem] theorem szT107 : szT Tryd.prog 107 = some 1 := by kernel_rfl
@[go_sem] theorem aggT107 : aggT Tryd.prog 107 = some false := by kernel_rfl
@[go_sem] theorem boolT107 : boolT Tryd.prog 107 = false := by kernel_rfl
@[go_sem] theorem zeroT107 : zeroT Tryd.prog 107 = some (.nilFunc) := by kernel_rfl
@[go_sem] theorem bytesT107 : bytesT Tryd.prog 107 = some 8 := by kernel_rfl
@[go_sem] theorem szT108 : szT Tryd.prog 108 = some 1 := by kernel_rfl
@[go_sem] theorem aggT108 : aggT Tryd.prog 108 = some false := by kernel_rfl
@[go_sem] theorem boolT108 : boolT Tryd.prog 108 = false := by kernel_rfl
@[go_sem] theorem zeroT108 : zeroT Tryd.prog 108 = some (.pointer none) := by kernel_rfl
@[go_sem] theorem bytesT108 : bytesT Tryd.prog 108 = some 8 := by kernel_rfl
@[go_sem] theorem szT110 : szT Tryd.prog 110 = some 9 := by kernel_rfl
@[go_sem] theorem aggT110 : aggT Tryd.prog 110 = some true := by kernel_rfl
@[go_sem] theorem boolT110 : boolT Tryd.prog 110 = false := by kernel_rfl
@[go_sem] theorem fofT110_0 : fofT Tryd.prog 110 0 = some (0, 24, 3) := by kernel_rfl
@[go_sem] theorem fofT110_1 : fofT Tryd.prog 110 1 = some (3, 27, 2) := by kernel_rfl
@[go_sem] theorem fofT110_2 : fofT Tryd.prog 110 2 = some (5, 105, 1) := by kernel_rfl
@[go_sem] theorem fofT110_3 : fofT Tryd.prog 110 3 = some (6, 47, 1) := by kernel_rfl
@[go_sem] theorem fofT110_4 : fofT Tryd.prog 110 4 = some (7, 66, 1) := by kernel_rfl
@[go_sem] theorem fofT110_5 : fofT Tryd.prog 110 5 = some (8, 107, 1) := by kernel_rfl
@[go_sem] theorem zeroT110 : zeroT Tryd.prog 110 = some (.agg #[.int .i64 0, .int .i64 0, .slice none 0 0, .slice none 0 0, .slice none 0 0, .int .u16 0, .slice none 0 0, .nilFunc, .nilFunc]) := by kernel_rfl
@[go_sem] theorem bytesT110 : bytesT Tryd.prog 110 = some 136 := by kernel_rfl
@[go_sem] theorem bldT110 : bldT Tryd.prog 110 = some ([.int .i64 0, .int .i64 0, .slice none 0 0, .slice none 0 0, .slice none 0 0, .int .u16 0, .slice none 0 0, .nilFunc, .nilFunc], fun i => ([(0, 3), (3, 2), (5, 1), (6, 1), (7, 1), (8, 1)] : List (Nat × Nat))[i]?) := by kernel_rfl
@[go_sem] theorem szT111 : szT Tryd.prog 111 = some 1 := by kernel_rfl
@[go_sem] theorem aggT111 : aggT Tryd.prog 111 = some false := by kernel_rfl
@[go_sem] theorem boolT111 : boolT Tryd.prog 111 = false := by kernel_rfl
@[go_sem] theorem zeroT111 : zeroT Tryd.prog 111 = some (.pointer none) := by kernel_rfl
@[go_sem] theorem bytesT111 : bytesT Tryd.prog 111 = some 8 := by kernel_rfl
@[go_sem] theorem szT113 : szT Tryd.prog 113 = some 1 := by kernel_rfl
@[go_sem] theorem aggT113 : aggT Tryd.prog 113 = some false := by kernel_rfl
@[go_sem] theorem boolT113 : boolT Tryd.prog 113 = false := by kernel_rfl
@[go_sem] theorem zeroT113 : zeroT Tryd.prog 113 = some (.nilFunc) := by kernel_rfl
@[go_sem] theorem bytesT113 : bytesT Tryd.prog 113 = some 8 := by kernel_rfl
@[go_sem] theorem szT115 : szT Tryd.prog 115 = some 5 := by kernel_rfl
@[go_sem] theorem aggT115 : aggT Tryd.prog 115 = some true := by kernel_rfl
@[go_sem] theorem boolT115 : boolT Tryd.prog 115 = false := by kernel_rfl
@[go_sem] theorem fofT115_0 : fofT Tryd.prog 115 0 = some (0, 3, 1) := by kernel_rfl
@[go_sem] theorem fofT115_1 : fofT Tryd.prog 115 1 = some (1, 3, 1) := by kernel_rfl
@[go_sem] theorem fofT115_2 : fofT Tryd.prog 115 2 = some (2, 3, 1) := by kernel_rfl
@[go_sem] theorem fofT115_3 : fofT Tryd.prog 115 3 = some (3, 3, 1) := by kernel_rfl
@[go_sem] theorem fofT115_4 : fofT Tryd.prog 115 4 = some (4, 3, 1) := by kernel_rfl
@[go_sem] theorem zeroT115 : zeroT Tryd.prog 115 = some (.agg #[.int .i64 0, .int .i64 0, .int .i64 0, .int .i64 0, .int .i64 0]) := by kernel_rfl
@[go_sem] theorem bytesT115 : bytesT Tryd.prog 115 = some 40 := by kernel_rfl
@[go_sem] theorem bldT115 : bldT Tryd.prog 115 = some ([.int .i64 0, .int .i64 0, .int .i64 0, .int .i64 0, .int .i64 0], fun i => ([(0, 1), (1, 1), (2, 1), (3, 1), (4, 1)] : List (Nat × Nat))[i]?) := by kernel_rfl
@[go_sem] theorem eqA115 (x0 y0 : Int) (x1 y1 : Int) (x2 y2 : Int) (x3 y3 : Int) (x4 y4 : Int) : eqA Tryd.prog 115 [.val (.int .i64 x0), .val (.int .i64 x1), .val (.int .i64 x2), .val (.int .i64 x3), .val (.int .i64 x4)] [.val (.int .i64 y0), .val (.int .i64 y1), .val (.int .i64 y2), .val (.int .i64 y3), .val (.int .i64 y4)] = some (x0 == y0 && (x1 == y1 && (x2 == y2 && (x3 == y3 && (x4 == y4 && true))))) := by kernel_rfl
@[go_sem] theorem szT116 : szT Tryd.prog 116 = some 40 := by kernel_rfl
@[go_sem] theorem aggT116 : aggT Tryd.prog 116 = some true := by kernel_rfl
@[go_sem] theorem boolT116 : boolT Tryd.prog 116 = false := by kernel_rfl
@[go_sem] theorem arT116 : arT Tryd.prog 116 = some (8, 115, 5) := by kernel_rfl
@[go_sem] theorem zeroT116 : zeroT Tryd.prog 116 = some (.agg (List.replicate 40 (.int .i64 0)).toArray) := by kernel_rfl
@[go_sem] theorem bytesT116 : bytesT Tryd.prog 116 = some 320 := by kernel_rfl
@[go_sem] theorem szT120 : szT Tryd.prog 120 = some 1 := by kernel_rfl
@[go_sem] theorem aggT120 : aggT Tryd.prog 120 = some false := by kernel_rfl
@[go_sem] theorem boolT120 : boolT Tryd.prog 120 = false := by kernel_rfl
@[go_sem] theorem kT120 : kT Tryd.prog 120 = some .u32 := by kernel_rfl
@[go_sem] theorem knT120 : knT Tryd.prog 120 = true := by kernel_rfl
@[go_sem] theorem zeroT120 : zeroT Tryd.prog 120 = some (.int .u32 0) := by kernel_rfl
@[go_sem] theorem bytesT120 : bytesT Tryd.prog 120 = some 4 := by kernel_rfl
@[go_sem] theorem szT122 : szT Tryd.prog 122 = some 1 := by kernel_rfl
@[go_sem] theorem aggT122 : aggT Tryd.prog 122 = some false := by kernel_rfl
@[go_sem] theorem boolT122 : boolT Tryd.prog 122 = false := by kernel_rfl
@[go_sem] theorem kT122 : kT Tryd.prog 122 = some .u64 := by kernel_rfl
@[go_sem] theorem knT122 : knT Tryd.prog 122 = true := by kernel_rfl
@[go_sem] theorem zeroT122 : zeroT Tryd.prog 122 = some (.int .u64 0) := by kernel_rfl
@[go_sem] theorem bytesT122 : bytesT Tryd.prog 122 = some 8 := by kernel_rfl
@[go_sem] theorem szT126 : szT Tryd.prog 126 = some 5 := by kernel_rfl
@[go_sem] theorem aggT126 : aggT Tryd.prog 126 = some true := by kernel_rfl
@[go_sem] theorem boolT126 : boolT Tryd.prog 126 = false := by kernel_rfl
@[go_sem] theorem arT126 : arT Tryd.prog 126 = some (5, 70, 1) := by kernel_rfl
@[go_sem] theorem zeroT126 : zeroT Tryd.prog 126 = some (.agg #[.int .u64 0, .int .u64 0, .int .u64 0, .int .u64 0, .int .u64 0]) := by kernel_rfl
@[go_sem] theorem bytesT126 : bytesT Tryd.prog 126 = some 40 := by kernel_rfl
@[go_sem] theorem bldT126 : bldT Tryd.prog 126 = some ([.int .u64 0, .int .u64 0, .int .u64 0, .int .u64 0, .int .u64 0], fun i => some (i * 1, 1)) := by kernel_rfl
@[go_sem] theorem szT128 : szT Tryd.prog 128 = some 36 := by kernel_rfl
@[go_sem] theorem aggT128 : aggT Tryd.prog 128 = some true := by kernel_rfl
@[go_sem] theorem boolT128 : boolT Tryd.prog 128 = false := by kernel_rfl
@[go_sem] theorem fofT128_0 : fofT Tryd.prog 128 0 = some (0, 3, 1) := by kernel_rfl
@[go_sem] theorem fofT128_1 : fofT Tryd.prog 128 1 = some (1, 91, 25) := by kernel_rfl
@[go_sem] theorem fofT128_2 : fofT Tryd.prog 128 2 = some (26, 126, 5) := by kernel_rfl
@[go_sem] theorem fofT128_3 : fofT Tryd.prog 128 3 = some (31, 126, 5) := by kernel_rfl
@[go_sem] theorem zeroT128 : zeroT Tryd.prog 128 = some (.agg #[.int .i64 0, .int .i64 0, .int .i64 0, .int .i64 0, .int .i64 0, .int .i64 0, .int .i64 0, .int .i64 0, .int .i64 0, .int .i64 0, .int .i64 0, .int .i64 0, .int .i64 0, .int .i64 0, .int .i64 0, .int .i64 0, .int .i64 0, .int .i64 0, .int .i64 0, .int .i64 0, .int .i64 0, .int .i64 0, .int .i64 0, .int .i64 0, .int .i64 0, .int .i64 0, .int .u64 0, .int .u64 0, .int .u64 0, .int .u64 0, .int .u64 0, .int .u64 0, .int .u64 0, .int .u64 0, .int .u64 0, .int .u64 0]) := by kernel_rfl
@[go_sem] theorem bytesT128 : bytesT Tryd.prog 128 = some 288 := by kernel_rfl
@[go_sem] theorem bldT128 : bldT Tryd.prog 128 = some ([.int .i64 0, .int .i64 0, .int .i64 0, .int .i64 0, .int .i64 0, .int .i64 0, .int .i64 0, .int .i64 0, .int .i64 0, .int .i64 0, .int .i64 0, .int .i64 0, .int .i64 0, .int .i64 0, .int .i64 0, .int .i64 0, .int .i64 0, .int .i64 0, .int .i64 0, .int .i64 0, .int .i64 0, .int .i64 0, .int .i64 0, .int .i64 0, .int .i64 0, .int .i64 0, .int .u64 0, .int .u64 0, .int .u64 0, .int .u64 0, .int .u64 0, .int .u64 0, .int .u64 0, .int .u64 0, .int .u64 0, .int .u64 0], fun i => ([(0, 1), (1, 25), (26, 5), (31, 5)] : List (Nat × Nat))[i]?) := by kernel_rfl
@[go_sem] theorem szT139 : szT Tryd.prog 139 = some 320 := by kernel_rfl
@[go_sem] theorem aggT139 : aggT Tryd.prog 139 = some true := by kernel_rfl
@[go_sem] theorem boolT139 : boolT Tryd.prog 139 = false := by kernel_rfl
@[go_sem] theorem arT139 : arT Tryd.prog 139 = some (8, 116, 40) := by kernel_rfl
@[go_sem] theorem zeroT139 : zeroT Tryd.prog 139 = some (.agg (List.replicate 320 (.int .i64 0)).toArray) := by kernel_rfl
@[go_sem] theorem bytesT139 : bytesT Tryd.prog 139 = some 2560 := by kernel_rfl
@[go_sem] theorem szT141 : szT Tryd.prog 141 = some 1 := by kernel_rfl
@[go_sem] theorem aggT141 : aggT Tryd.prog 141 = some false := by kernel_rfl
@[go_sem] theorem boolT141 : boolT Tryd.prog 141 = false := by kernel_rfl
@[go_sem] theorem zeroT141 : zeroT Tryd.prog 141 = some (.nilFunc) := by kernel_rfl
@[go_sem] theorem bytesT141 : bytesT Tryd.prog 141 = some 8 := by kernel_rfl
@[go_sem] theorem szT143 : szT Tryd.prog 143 = some 5 := by kernel_rfl
@[go_sem] theorem aggT143 : aggT Tryd.prog 143 = some true := by kernel_rfl
@[go_sem] theorem boolT143 : boolT Tryd.prog 143 = false := by kernel_rfl
@[go_sem] theorem arT143 : arT Tryd.prog 143 = some (5, 3, 1) := by kernel_rfl
@[go_sem] theorem zeroT143 : zeroT Tryd.prog 143 = some (.agg #[.int .i64 0, .int .i64 0, .int .i64 0, .int .i64 0, .int .i64 0]) := by kernel_rfl
@[go_sem] theorem bytesT143 : bytesT Tryd.prog 143 = some 40 := by kernel_rfl
@[go_sem] theorem bldT143 : bldT Tryd.prog 143 = some ([.int .i64 0, .int .i64 0, .int .i64 0, .int .i64 0, .int .i64 0], fun i => some (i * 1, 1)) := by kernel_rfl
@[go_sem] theorem szT156 : szT Tryd.prog 156 = some 32 := by kernel_rfl
@[go_sem] theorem aggT156 : aggT Tryd.prog 156 = some true := by kernel_rfl
@[go_sem] theorem boolT156 : boolT Tryd.prog 156 = false := by kernel_rfl
@[go_sem] theorem arT156 : arT Tryd.prog 156 = some (32, 5, 1) := by kernel_rfl
@[go_sem] theorem zeroT156 : zeroT Tryd.prog 156 = some (.agg (List.replicate 32 (.int .u8 0)).toArray) := by kernel_rfl
@[go_sem] theorem bytesT156 : bytesT Tryd.prog 156 = some 32 := by kernel_rfl
@[go_sem] theorem szT157 : szT Tryd.prog 157 = some 64 := by kernel_rfl
@[go_sem] theorem aggT157 : aggT Tryd.prog 157 = some true := by kernel_rfl
@[go_sem] theorem boolT157 : boolT Tryd.prog 157 = false := by kernel_rfl
@[go_sem] theorem arT157 : arT Tryd.prog 157 = some (64, 5, 1) := by kernel_rfl
@[go_sem] theorem zeroT157 : zeroT Tryd.prog 157 = some (.agg (List.replicate 64 (.int .u8 0)).toArray) := by kernel_rfl
@[go_sem] theorem bytesT157 : bytesT Tryd.prog 157 = some 64 := by kernel_rfl
attribute [go_sem] beq_self_eq_true Option.all_some Option.all_none Option.some_beq_some Bool.and_self List.size_toArray cond_true cond_false beq_true beq_false bne_self_eq_false List.append_eq
attribute [go_sem] Tryd.results3 Tryd.results4 Tryd.results5 Tryd.results6 Tryd.results7 Tryd.results8 Tryd.results9 Tryd.results10 Tryd.results11 Tryd.results12 Tryd.results13 Tryd.results14 Tryd.results15 Tryd.results16 Tryd.results17 Tryd.results18 Tryd.results19 Tryd.results20 Tryd.results21 Tryd.results22 Tryd.results23 Tryd.results24 Tryd.results25 Tryd.results26 Tryd.results27 Tryd.results28 Tryd.results29 Tryd.results30 Tryd.results31 Tryd.results32 Tryd.results33 Tryd.results34 Tryd.results35 Tryd.results36 Tryd.results37 Tryd.results38 Tryd.results39 Tryd.results40 Tryd.results41 Tryd.results42 Tryd.results43 Tryd.results44 Tryd.results45 Tryd.results46 Tryd.results47 Tryd.results48 Tryd.results49 Tryd.results50 Tryd.results51 Tryd.results52 Tryd.results53 Tryd.results54 Tryd.results55 Tryd.results56 Tryd.results57 Tryd.results58 Tryd.results59 Tryd.results60 Tryd.results61 Tryd.results62 Tryd.results63 Tryd.results64 Tryd.results65 Tryd.results66 Tryd.results67 Tryd.results68 Tryd.results69 Tryd.results70 Tryd.results72 Tryd.results73 Tryd.results74 Tryd.results75 Tryd.results76 Tryd.results77 Tryd.results78 Tryd.results79 Tryd.results80 Tryd.results81 Tryd.results82 Tryd.results83 Tryd.results84 Tryd.results85 Tryd.results86 Tryd.results87 Tryd.results88 Tryd.results89 Tryd.results90 Tryd.results91 Tryd.results100 Tryd.results101 Tryd.results102 Tryd.results103 Tryd.results117 Tryd.results139 Tryd.results140 Tryd.results142 Tryd.results143 Tryd.results144 Tryd.results145
end Go.V
