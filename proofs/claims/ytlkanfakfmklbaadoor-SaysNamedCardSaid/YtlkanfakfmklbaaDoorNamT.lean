/-
  Facts of types. Conditions: none.
-/
import Derived.Test.YtlkanfakfmklbaaDoorVCalls
import Derived.KernelRfl
import Derived.Test.YtlkanfakfmklbaaDoorProg
set_option linter.unusedVariables false
set_option linter.unusedSimpArgs false
set_option linter.deprecated false
namespace Go.V
open Go.Proofs
set_option linter.unusedVariables false

theorem mixed : Tryd.prog.follows .mixedOrders = true := by kernel_rfl
@[go_sem] theorem szT3 : szT Tryd.prog 3 = some 1 := by kernel_rfl
@[go_sem] theorem aggT3 : aggT Tryd.prog 3 = some false := by kernel_rfl
@[go_sem] theorem boolT3 : boolT Tryd.prog 3 = false := by kernel_rfl
@[go_sem] theorem kT3 : kT Tryd.prog 3 = some .i64 := by kernel_rfl
@[go_sem] theorem knT3 : knT Tryd.prog 3 = true := by kernel_rfl
@[go_sem] theorem zeroT3 : zeroT Tryd.prog 3 = some (.int .i64 0) := by kernel_rfl
@[go_sem] theorem bytesT3 : bytesT Tryd.prog 3 = some 8 := by kernel_rfl
@[go_sem] theorem szT4 : szT Tryd.prog 4 = some 1 := by kernel_rfl
@[go_sem] theorem aggT4 : aggT Tryd.prog 4 = some false := by kernel_rfl
@[go_sem] theorem boolT4 : boolT Tryd.prog 4 = true := by kernel_rfl
@[go_sem] theorem zeroT4 : zeroT Tryd.prog 4 = some (.bool false) := by kernel_rfl
@[go_sem] theorem bytesT4 : bytesT Tryd.prog 4 = some 1 := by kernel_rfl
@[go_sem] theorem szT5 : szT Tryd.prog 5 = some 1 := by kernel_rfl
@[go_sem] theorem aggT5 : aggT Tryd.prog 5 = some false := by kernel_rfl
@[go_sem] theorem boolT5 : boolT Tryd.prog 5 = false := by kernel_rfl
@[go_sem] theorem kT5 : kT Tryd.prog 5 = some .u8 := by kernel_rfl
@[go_sem] theorem knT5 : knT Tryd.prog 5 = true := by kernel_rfl
@[go_sem] theorem zeroT5 : zeroT Tryd.prog 5 = some (.int .u8 0) := by kernel_rfl
@[go_sem] theorem bytesT5 : bytesT Tryd.prog 5 = some 1 := by kernel_rfl
@[go_sem] theorem szT9 : szT Tryd.prog 9 = some 1 := by kernel_rfl
@[go_sem] theorem aggT9 : aggT Tryd.prog 9 = some false := by kernel_rfl
@[go_sem] theorem boolT9 : boolT Tryd.prog 9 = false := by kernel_rfl
@[go_sem] theorem strT9 : Tryd.prog.underlying 9 = some .string := by kernel_rfl
@[go_sem] theorem bytesT9 : bytesT Tryd.prog 9 = some 16 := by kernel_rfl
@[go_sem] theorem szT22 : szT Tryd.prog 22 = some 8 := by kernel_rfl
@[go_sem] theorem aggT22 : aggT Tryd.prog 22 = some true := by kernel_rfl
@[go_sem] theorem boolT22 : boolT Tryd.prog 22 = false := by kernel_rfl
@[go_sem] theorem arT22 : arT Tryd.prog 22 = some (8, 5, 1) := by kernel_rfl
@[go_sem] theorem zeroT22 : zeroT Tryd.prog 22 = some (.agg #[.int .u8 0, .int .u8 0, .int .u8 0, .int .u8 0, .int .u8 0, .int .u8 0, .int .u8 0, .int .u8 0]) := by kernel_rfl
@[go_sem] theorem bytesT22 : bytesT Tryd.prog 22 = some 8 := by kernel_rfl
@[go_sem] theorem bldT22 : bldT Tryd.prog 22 = some ([.int .u8 0, .int .u8 0, .int .u8 0, .int .u8 0, .int .u8 0, .int .u8 0, .int .u8 0, .int .u8 0], fun i => some (i * 1, 1)) := by kernel_rfl
@[go_sem] theorem szT24 : szT Tryd.prog 24 = some 18 := by kernel_rfl
@[go_sem] theorem aggT24 : aggT Tryd.prog 24 = some true := by kernel_rfl
@[go_sem] theorem boolT24 : boolT Tryd.prog 24 = false := by kernel_rfl
@[go_sem] theorem fofT24_0 : fofT Tryd.prog 24 0 = some (0, 5, 1) := by kernel_rfl
@[go_sem] theorem fofT24_1 : fofT Tryd.prog 24 1 = some (1, 5, 1) := by kernel_rfl
@[go_sem] theorem fofT24_2 : fofT Tryd.prog 24 2 = some (2, 22, 8) := by kernel_rfl
@[go_sem] theorem fofT24_3 : fofT Tryd.prog 24 3 = some (10, 22, 8) := by kernel_rfl
@[go_sem] theorem zeroT24 : zeroT Tryd.prog 24 = some (.agg (List.replicate 18 (.int .u8 0)).toArray) := by kernel_rfl
@[go_sem] theorem bytesT24 : bytesT Tryd.prog 24 = some 18 := by kernel_rfl
@[go_sem] theorem bldT24 : bldT Tryd.prog 24 = some ([.int .u8 0, .int .u8 0, .int .u8 0, .int .u8 0, .int .u8 0, .int .u8 0, .int .u8 0, .int .u8 0, .int .u8 0, .int .u8 0, .int .u8 0, .int .u8 0, .int .u8 0, .int .u8 0, .int .u8 0, .int .u8 0, .int .u8 0, .int .u8 0], fun i => ([(0, 1), (1, 1), (2, 8), (10, 8)] : List (Nat × Nat))[i]?) := by kernel_rfl
@[go_sem] theorem szT25 : szT Tryd.prog 25 = some 1 := by kernel_rfl
@[go_sem] theorem aggT25 : aggT Tryd.prog 25 = some false := by kernel_rfl
@[go_sem] theorem boolT25 : boolT Tryd.prog 25 = false := by kernel_rfl
@[go_sem] theorem slT25 : slT Tryd.prog 25 = some (43, 2) := by kernel_rfl
@[go_sem] theorem zeroT25 : zeroT Tryd.prog 25 = some (.slice none 0 0) := by kernel_rfl
@[go_sem] theorem bytesT25 : bytesT Tryd.prog 25 = some 24 := by kernel_rfl
@[go_sem] theorem szT27 : szT Tryd.prog 27 = some 2 := by kernel_rfl
@[go_sem] theorem aggT27 : aggT Tryd.prog 27 = some true := by kernel_rfl
@[go_sem] theorem boolT27 : boolT Tryd.prog 27 = false := by kernel_rfl
@[go_sem] theorem fofT27_0 : fofT Tryd.prog 27 0 = some (0, 3, 1) := by kernel_rfl
@[go_sem] theorem fofT27_1 : fofT Tryd.prog 27 1 = some (1, 25, 1) := by kernel_rfl
@[go_sem] theorem zeroT27 : zeroT Tryd.prog 27 = some (.agg #[.int .i64 0, .slice none 0 0]) := by kernel_rfl
@[go_sem] theorem bytesT27 : bytesT Tryd.prog 27 = some 32 := by kernel_rfl
@[go_sem] theorem bldT27 : bldT Tryd.prog 27 = some ([.int .i64 0, .slice none 0 0], fun i => ([(0, 1), (1, 1)] : List (Nat × Nat))[i]?) := by kernel_rfl
@[go_sem] theorem szT28 : szT Tryd.prog 28 = some 1 := by kernel_rfl
@[go_sem] theorem aggT28 : aggT Tryd.prog 28 = some false := by kernel_rfl
@[go_sem] theorem boolT28 : boolT Tryd.prog 28 = false := by kernel_rfl
@[go_sem] theorem slT28 : slT Tryd.prog 28 = some (38, 2) := by kernel_rfl
@[go_sem] theorem zeroT28 : zeroT Tryd.prog 28 = some (.slice none 0 0) := by kernel_rfl
@[go_sem] theorem bytesT28 : bytesT Tryd.prog 28 = some 24 := by kernel_rfl
@[go_sem] theorem szT31 : szT Tryd.prog 31 = some 1 := by kernel_rfl
@[go_sem] theorem aggT31 : aggT Tryd.prog 31 = some false := by kernel_rfl
@[go_sem] theorem boolT31 : boolT Tryd.prog 31 = false := by kernel_rfl
@[go_sem] theorem kT31 : kT Tryd.prog 31 = some .u64 := by kernel_rfl
@[go_sem] theorem knT31 : knT Tryd.prog 31 = true := by kernel_rfl
@[go_sem] theorem zeroT31 : zeroT Tryd.prog 31 = some (.int .u64 0) := by kernel_rfl
@[go_sem] theorem bytesT31 : bytesT Tryd.prog 31 = some 8 := by kernel_rfl
@[go_sem] theorem szT32 : szT Tryd.prog 32 = some 1 := by kernel_rfl
@[go_sem] theorem aggT32 : aggT Tryd.prog 32 = some false := by kernel_rfl
@[go_sem] theorem boolT32 : boolT Tryd.prog 32 = false := by kernel_rfl
@[go_sem] theorem slT32 : slT Tryd.prog 32 = some (3, 1) := by kernel_rfl
@[go_sem] theorem zeroT32 : zeroT Tryd.prog 32 = some (.slice none 0 0) := by kernel_rfl
@[go_sem] theorem bytesT32 : bytesT Tryd.prog 32 = some 24 := by kernel_rfl
@[go_sem] theorem szT33 : szT Tryd.prog 33 = some 1 := by kernel_rfl
@[go_sem] theorem aggT33 : aggT Tryd.prog 33 = some false := by kernel_rfl
@[go_sem] theorem boolT33 : boolT Tryd.prog 33 = false := by kernel_rfl
@[go_sem] theorem kT33 : kT Tryd.prog 33 = some .i64 := by kernel_rfl
@[go_sem] theorem knT33 : knT Tryd.prog 33 = true := by kernel_rfl
@[go_sem] theorem zeroT33 : zeroT Tryd.prog 33 = some (.int .i64 0) := by kernel_rfl
@[go_sem] theorem bytesT33 : bytesT Tryd.prog 33 = some 8 := by kernel_rfl
@[go_sem] theorem szT38 : szT Tryd.prog 38 = some 2 := by kernel_rfl
@[go_sem] theorem aggT38 : aggT Tryd.prog 38 = some true := by kernel_rfl
@[go_sem] theorem boolT38 : boolT Tryd.prog 38 = false := by kernel_rfl
@[go_sem] theorem arT38 : arT Tryd.prog 38 = some (2, 31, 1) := by kernel_rfl
@[go_sem] theorem zeroT38 : zeroT Tryd.prog 38 = some (.agg #[.int .u64 0, .int .u64 0]) := by kernel_rfl
@[go_sem] theorem bytesT38 : bytesT Tryd.prog 38 = some 16 := by kernel_rfl
@[go_sem] theorem bldT38 : bldT Tryd.prog 38 = some ([.int .u64 0, .int .u64 0], fun i => some (i * 1, 1)) := by kernel_rfl
@[go_sem] theorem szT43 : szT Tryd.prog 43 = some 2 := by kernel_rfl
@[go_sem] theorem aggT43 : aggT Tryd.prog 43 = some true := by kernel_rfl
@[go_sem] theorem boolT43 : boolT Tryd.prog 43 = false := by kernel_rfl
@[go_sem] theorem fofT43_0 : fofT Tryd.prog 43 0 = some (0, 32, 1) := by kernel_rfl
@[go_sem] theorem fofT43_1 : fofT Tryd.prog 43 1 = some (1, 32, 1) := by kernel_rfl
@[go_sem] theorem zeroT43 : zeroT Tryd.prog 43 = some (.agg #[.slice none 0 0, .slice none 0 0]) := by kernel_rfl
@[go_sem] theorem bytesT43 : bytesT Tryd.prog 43 = some 48 := by kernel_rfl
@[go_sem] theorem bldT43 : bldT Tryd.prog 43 = some ([.slice none 0 0, .slice none 0 0], fun i => ([(0, 1), (1, 1)] : List (Nat × Nat))[i]?) := by kernel_rfl
@[go_sem] theorem szT54 : szT Tryd.prog 54 = some 6 := by kernel_rfl
@[go_sem] theorem aggT54 : aggT Tryd.prog 54 = some true := by kernel_rfl
@[go_sem] theorem boolT54 : boolT Tryd.prog 54 = false := by kernel_rfl
@[go_sem] theorem arT54 : arT Tryd.prog 54 = some (6, 5, 1) := by kernel_rfl
@[go_sem] theorem zeroT54 : zeroT Tryd.prog 54 = some (.agg #[.int .u8 0, .int .u8 0, .int .u8 0, .int .u8 0, .int .u8 0, .int .u8 0]) := by kernel_rfl
@[go_sem] theorem bytesT54 : bytesT Tryd.prog 54 = some 6 := by kernel_rfl
@[go_sem] theorem bldT54 : bldT Tryd.prog 54 = some ([.int .u8 0, .int .u8 0, .int .u8 0, .int .u8 0, .int .u8 0, .int .u8 0], fun i => some (i * 1, 1)) := by kernel_rfl
@[go_sem] theorem szT56 : szT Tryd.prog 56 = some 1 := by kernel_rfl
@[go_sem] theorem aggT56 : aggT Tryd.prog 56 = some false := by kernel_rfl
@[go_sem] theorem boolT56 : boolT Tryd.prog 56 = false := by kernel_rfl
@[go_sem] theorem zeroT56 : zeroT Tryd.prog 56 = some (.nilFunc) := by kernel_rfl
@[go_sem] theorem bytesT56 : bytesT Tryd.prog 56 = some 8 := by kernel_rfl
@[go_sem] theorem szT60 : szT Tryd.prog 60 = some 1 := by kernel_rfl
@[go_sem] theorem aggT60 : aggT Tryd.prog 60 = some false := by kernel_rfl
@[go_sem] theorem boolT60 : boolT Tryd.prog 60 = false := by kernel_rfl
@[go_sem] theorem slT60 : slT Tryd.prog 60 = some (32, 1) := by kernel_rfl
@[go_sem] theorem zeroT60 : zeroT Tryd.prog 60 = some (.slice none 0 0) := by kernel_rfl
@[go_sem] theorem bytesT60 : bytesT Tryd.prog 60 = some 24 := by kernel_rfl
@[go_sem] theorem szT66 : szT Tryd.prog 66 = some 1 := by kernel_rfl
@[go_sem] theorem aggT66 : aggT Tryd.prog 66 = some false := by kernel_rfl
@[go_sem] theorem boolT66 : boolT Tryd.prog 66 = false := by kernel_rfl
@[go_sem] theorem kT66 : kT Tryd.prog 66 = some .u8 := by kernel_rfl
@[go_sem] theorem knT66 : knT Tryd.prog 66 = true := by kernel_rfl
@[go_sem] theorem zeroT66 : zeroT Tryd.prog 66 = some (.int .u8 0) := by kernel_rfl
@[go_sem] theorem bytesT66 : bytesT Tryd.prog 66 = some 1 := by kernel_rfl
@[go_sem] theorem szT67 : szT Tryd.prog 67 = some 1 := by kernel_rfl
@[go_sem] theorem aggT67 : aggT Tryd.prog 67 = some false := by kernel_rfl
@[go_sem] theorem boolT67 : boolT Tryd.prog 67 = false := by kernel_rfl
@[go_sem] theorem slT67 : slT Tryd.prog 67 = some (81, 3) := by kernel_rfl
@[go_sem] theorem zeroT67 : zeroT Tryd.prog 67 = some (.slice none 0 0) := by kernel_rfl
@[go_sem] theorem bytesT67 : bytesT Tryd.prog 67 = some 24 := by kernel_rfl
@[go_sem] theorem szT69 : szT Tryd.prog 69 = some 2 := by kernel_rfl
@[go_sem] theorem aggT69 : aggT Tryd.prog 69 = some true := by kernel_rfl
@[go_sem] theorem boolT69 : boolT Tryd.prog 69 = false := by kernel_rfl
@[go_sem] theorem fofT69_0 : fofT Tryd.prog 69 0 = some (0, 66, 1) := by kernel_rfl
@[go_sem] theorem fofT69_1 : fofT Tryd.prog 69 1 = some (1, 67, 1) := by kernel_rfl
@[go_sem] theorem zeroT69 : zeroT Tryd.prog 69 = some (.agg #[.int .u8 0, .slice none 0 0]) := by kernel_rfl
@[go_sem] theorem bytesT69 : bytesT Tryd.prog 69 = some 32 := by kernel_rfl
@[go_sem] theorem bldT69 : bldT Tryd.prog 69 = some ([.int .u8 0, .slice none 0 0], fun i => ([(0, 1), (1, 1)] : List (Nat × Nat))[i]?) := by kernel_rfl
@[go_sem] theorem szT79 : szT Tryd.prog 79 = some 2 := by kernel_rfl
@[go_sem] theorem aggT79 : aggT Tryd.prog 79 = some true := by kernel_rfl
@[go_sem] theorem boolT79 : boolT Tryd.prog 79 = false := by kernel_rfl
@[go_sem] theorem fofT79_0 : fofT Tryd.prog 79 0 = some (0, 66, 1) := by kernel_rfl
@[go_sem] theorem fofT79_1 : fofT Tryd.prog 79 1 = some (1, 66, 1) := by kernel_rfl
@[go_sem] theorem zeroT79 : zeroT Tryd.prog 79 = some (.agg #[.int .u8 0, .int .u8 0]) := by kernel_rfl
@[go_sem] theorem bytesT79 : bytesT Tryd.prog 79 = some 2 := by kernel_rfl
@[go_sem] theorem bldT79 : bldT Tryd.prog 79 = some ([.int .u8 0, .int .u8 0], fun i => ([(0, 1), (1, 1)] : List (Nat × Nat))[i]?) := by kernel_rfl
@[go_sem] theorem eqA79 (x0 y0 : Int) (x1 y1 : Int) : eqA Tryd.prog 79 [.val (.int .u8 x0), .val (.int .u8 x1)] [.val (.int .u8 y0), .val (.int .u8 y1)] = some (x0 == y0 && (x1 == y1 && true)) := by kernel_rfl
@[go_sem] theorem szT81 : szT Tryd.prog 81 = some 3 := by kernel_rfl
@[go_sem] theorem aggT81 : aggT Tryd.prog 81 = some true := by kernel_rfl
@[go_sem] theorem boolT81 : boolT Tryd.prog 81 = false := by kernel_rfl
@[go_sem] theorem fofT81_0 : fofT Tryd.prog 81 0 = some (0, 79, 2) := by kernel_rfl
@[go_sem] theorem fofT81_1 : fofT Tryd.prog 81 1 = some (2, 3, 1) := by kernel_rfl
@[go_sem] theorem zeroT81 : zeroT Tryd.prog 81 = some (.agg #[.int .u8 0, .int .u8 0, .int .i64 0]) := by kernel_rfl
@[go_sem] theorem bytesT81 : bytesT Tryd.prog 81 = some 16 := by kernel_rfl
@[go_sem] theorem bldT81 : bldT Tryd.prog 81 = some ([.int .u8 0, .int .u8 0, .int .i64 0], fun i => ([(0, 2), (2, 1)] : List (Nat × Nat))[i]?) := by kernel_rfl
@[go_sem] theorem szT82 : szT Tryd.prog 82 = some 1 := by kernel_rfl
@[go_sem] theorem aggT82 : aggT Tryd.prog 82 = some false := by kernel_rfl
@[go_sem] theorem boolT82 : boolT Tryd.prog 82 = false := by kernel_rfl
@[go_sem] theorem zeroT82 : zeroT Tryd.prog 82 = some (.nilFunc) := by kernel_rfl
@[go_sem] theorem bytesT82 : bytesT Tryd.prog 82 = some 8 := by kernel_rfl
@[go_sem] theorem szT83 : szT Tryd.prog 83 = some 1 := by kernel_rfl
@[go_sem] theorem aggT83 : aggT Tryd.prog 83 = some false := by kernel_rfl
@[go_sem] theorem boolT83 : boolT Tryd.prog 83 = false := by kernel_rfl
@[go_sem] theorem zeroT83 : zeroT Tryd.prog 83 = some (.nilFunc) := by kernel_rfl
@[go_sem] theorem bytesT83 : bytesT Tryd.prog 83 = some 8 := by kernel_rfl
@[go_sem] theorem szT84 : szT Tryd.prog 84 = some 1 := by kernel_rfl
@[go_sem] theorem aggT84 : aggT Tryd.prog 84 = some false := by kernel_rfl
@[go_sem] theorem boolT84 : boolT Tryd.prog 84 = false := by kernel_rfl
@[go_sem] theorem zeroT84 : zeroT Tryd.prog 84 = some (.nilFunc) := by kernel_rfl
@[go_sem] theorem bytesT84 : bytesT Tryd.prog 84 = some 8 := by kernel_rfl
@[go_sem] theorem szT91 : szT Tryd.prog 91 = some 1 := by kernel_rfl
@[go_sem] theorem aggT91 : aggT Tryd.prog 91 = some false := by kernel_rfl
@[go_sem] theorem boolT91 : boolT Tryd.prog 91 = false := by kernel_rfl
@[go_sem] theorem slT91 : slT Tryd.prog 91 = some (79, 2) := by kernel_rfl
@[go_sem] theorem zeroT91 : zeroT Tryd.prog 91 = some (.slice none 0 0) := by kernel_rfl
@[go_sem] theorem bytesT91 : bytesT Tryd.prog 91 = some 24 := by kernel_rfl
@[go_sem] theorem szT95 : szT Tryd.prog 95 = some 1 := by kernel_rfl
@[go_sem] theorem aggT95 : aggT Tryd.prog 95 = some false := by kernel_rfl
@[go_sem] theorem boolT95 : boolT Tryd.prog 95 = false := by kernel_rfl
@[go_sem] theorem zeroT95 : zeroT Tryd.prog 95 = some (.nilFunc) := by kernel_rfl
@[go_sem] theorem bytesT95 : bytesT Tryd.prog 95 = some 8 := by kernel_rfl
@[go_sem] theorem szT96 : szT Tryd.prog 96 = some 1 := by kernel_rfl
@[go_sem] theorem aggT96 : aggT Tryd.prog 96 = some false := by kernel_rfl
@[go_sem] theorem boolT96 : boolT Tryd.prog 96 = false := by kernel_rfl
@[go_sem] theorem slT96 : slT Tryd.prog 96 = some (66, 1) := by kernel_rfl
@[go_sem] theorem zeroT96 : zeroT Tryd.prog 96 = some (.slice none 0 0) := by kernel_rfl
@[go_sem] theorem bytesT96 : bytesT Tryd.prog 96 = some 24 := by kernel_rfl
@[go_sem] theorem szT102 : szT Tryd.prog 102 = some 1 := by kernel_rfl
@[go_sem] theorem aggT102 : aggT Tryd.prog 102 = some false := by kernel_rfl
@[go_sem] theorem boolT102 : boolT Tryd.prog 102 = false := by kernel_rfl
@[go_sem] theorem kT102 : kT Tryd.prog 102 = some .u32 := by kernel_rfl
@[go_sem] theorem knT102 : knT Tryd.prog 102 = true := by kernel_rfl
@[go_sem] theorem zeroT102 : zeroT Tryd.prog 102 = some (.int .u32 0) := by kernel_rfl
@[go_sem] theorem bytesT102 : bytesT Tryd.prog 102 = some 4 := by kernel_rfl
@[go_sem] theorem szT104 : szT Tryd.prog 104 = some 1 := by kernel_rfl
@[go_sem] theorem aggT104 : aggT Tryd.prog 104 = some false := by kernel_rfl
@[go_sem] theorem boolT104 : boolT Tryd.prog 104 = false := by kernel_rfl
@[go_sem] theorem kT104 : kT Tryd.prog 104 = some .u64 := by kernel_rfl
@[go_sem] theorem knT104 : knT Tryd.prog 104 = true := by kernel_rfl
@[go_sem] theorem zeroT104 : zeroT Tryd.prog 104 = some (.int .u64 0) := by kernel_rfl
@[go_sem] theorem bytesT104 : bytesT Tryd.prog 104 = some 8 := by kernel_rfl
@[go_sem] theorem szT107 : szT Tryd.prog 107 = some 2 := by kernel_rfl
@[go_sem] theorem aggT107 : aggT Tryd.prog 107 = some true := by kernel_rfl
@[go_sem] theorem boolT107 : boolT Tryd.prog 107 = false := by kernel_rfl
@[go_sem] theorem fofT107_0 : fofT Tryd.prog 107 0 = some (0, 66, 1) := by kernel_rfl
@[go_sem] theorem fofT107_1 : fofT Tryd.prog 107 1 = some (1, 32, 1) := by kernel_rfl
@[go_sem] theorem zeroT107 : zeroT Tryd.prog 107 = some (.agg #[.int .u8 0, .slice none 0 0]) := by kernel_rfl
@[go_sem] theorem bytesT107 : bytesT Tryd.prog 107 = some 32 := by kernel_rfl
@[go_sem] theorem bldT107 : bldT Tryd.prog 107 = some ([.int .u8 0, .slice none 0 0], fun i => ([(0, 1), (1, 1)] : List (Nat × Nat))[i]?) := by kernel_rfl
@[go_sem] theorem szT108 : szT Tryd.prog 108 = some 1 := by kernel_rfl
@[go_sem] theorem aggT108 : aggT Tryd.prog 108 = some false := by kernel_rfl
@[go_sem] theorem boolT108 : boolT Tryd.prog 108 = false := by kernel_rfl
@[go_sem] theorem slT108 : slT Tryd.prog 108 = some (107, 2) := by kernel_rfl
@[go_sem] theorem zeroT108 : zeroT Tryd.prog 108 = some (.slice none 0 0) := by kernel_rfl
@[go_sem] theorem bytesT108 : bytesT Tryd.prog 108 = some 24 := by kernel_rfl
@[go_sem] theorem szT112 : szT Tryd.prog 112 = some 1 := by kernel_rfl
@[go_sem] theorem aggT112 : aggT Tryd.prog 112 = some false := by kernel_rfl
@[go_sem] theorem boolT112 : boolT Tryd.prog 112 = false := by kernel_rfl
@[go_sem] theorem zeroT112 : zeroT Tryd.prog 112 = some (.nilFunc) := by kernel_rfl
@[go_sem] theorem bytesT112 : bytesT Tryd.prog 112 = some 8 := by kernel_rfl
@[go_sem] theorem szT115 : szT Tryd.prog 115 = some 1 := by kernel_rfl
@[go_sem] theorem aggT115 : aggT Tryd.prog 115 = some false := by kernel_rfl
@[go_sem] theorem boolT115 : boolT Tryd.prog 115 = false := by kernel_rfl
@[go_sem] theorem zeroT115 : zeroT Tryd.prog 115 = some (.nilFunc) := by kernel_rfl
@[go_sem] theorem bytesT115 : bytesT Tryd.prog 115 = some 8 := by kernel_rfl
@[go_sem] theorem szT119 : szT Tryd.prog 119 = some 32 := by kernel_rfl
@[go_sem] theorem aggT119 : aggT Tryd.prog 119 = some true := by kernel_rfl
@[go_sem] theorem boolT119 : boolT Tryd.prog 119 = false := by kernel_rfl
@[go_sem] theorem arT119 : arT Tryd.prog 119 = some (32, 5, 1) := by kernel_rfl
@[go_sem] theorem zeroT119 : zeroT Tryd.prog 119 = some (.agg (List.replicate 32 (.int .u8 0)).toArray) := by kernel_rfl
@[go_sem] theorem bytesT119 : bytesT Tryd.prog 119 = some 32 := by kernel_rfl
@[go_sem] theorem szT120 : szT Tryd.prog 120 = some 64 := by kernel_rfl
@[go_sem] theorem aggT120 : aggT Tryd.prog 120 = some true := by kernel_rfl
@[go_sem] theorem boolT120 : boolT Tryd.prog 120 = false := by kernel_rfl
@[go_sem] theorem arT120 : arT Tryd.prog 120 = some (64, 5, 1) := by kernel_rfl
@[go_sem] theorem zeroT120 : zeroT Tryd.prog 120 = some (.agg (List.replicate 64 (.int .u8 0)).toArray) := by kernel_rfl
@[go_sem] theorem bytesT120 : bytesT Tryd.prog 120 = some 64 := by kernel_rfl
attribute [go_sem] beq_self_eq_true Option.all_some Option.all_none Option.some_beq_some Bool.and_self List.size_toArray cond_true cond_false beq_true beq_false bne_self_eq_false List.append_eq
attribute [go_sem] Tryd.results3 Tryd.results4 Tryd.results5 Tryd.results6 Tryd.results7 Tryd.results8 Tryd.results9 Tryd.results10 Tryd.results11 Tryd.results12 Tryd.results13 Tryd.results14 Tryd.results15 Tryd.results16 Tryd.results17 Tryd.results18 Tryd.results19 Tryd.results20 Tryd.results21 Tryd.results22 Tryd.results23 Tryd.results24 Tryd.results25 Tryd.results26 Tryd.results27 Tryd.results28 Tryd.results29 Tryd.results30 Tryd.results31 Tryd.results32 Tryd.results33 Tryd.results34 Tryd.results35 Tryd.results36 Tryd.results37 Tryd.results38 Tryd.results39 Tryd.results40 Tryd.results41 Tryd.results42 Tryd.results43 Tryd.results44 Tryd.results45 Tryd.results46 Tryd.results47 Tryd.results48 Tryd.results49 Tryd.results50 Tryd.results51 Tryd.results52 Tryd.results53 Tryd.results54 Tryd.results55 Tryd.results56 Tryd.results57 Tryd.results58 Tryd.results59 Tryd.results60 Tryd.results61 Tryd.results62 Tryd.results63 Tryd.results64 Tryd.results65 Tryd.results67 Tryd.results68 Tryd.results69 Tryd.results70 Tryd.results71 Tryd.results72 Tryd.results73 Tryd.results74 Tryd.results75 Tryd.results84 Tryd.results85 Tryd.results86 Tryd.results122 Tryd.results123 Tryd.results124 Tryd.results125
end Go.V
