/-
  Facts of types. Conditions: none.
-/
import Derived.Test.YthhfgcejamfinaaDoorVCalls
import Derived.KernelRfl
import Derived.Test.YthhfgcejamfinaaDoorProg
set_option linter.unusedVariables false
set_option linter.unusedSimpArgs false
set_option linter.deprecated false
namespace Go.V
open Go.Proofs
set_option linter.unusedVariables false

theorem mixed : Tryd.prog.follows .mixedOrders = true := by kernel_rfl
@[go_sem] theorem szT3 : szT Tryd.prog 3 = some 1 := by kernel_rfl
@[go_sem] theorem aggT3 : aggT Tryd.prog 3 = some false := by kernel_rfl
@[go_sem] theorem boolT3 : boolT Tryd.prog 3 = false := by kernel_rfl
@[go_sem] theorem kT3 : kT Tryd.prog 3 = some .i64 := by kernel_rfl
@[go_sem] theorem knT3 : knT Tryd.prog 3 = true := by kernel_rfl
@[go_sem] theorem zeroT3 : zeroT Tryd.prog 3 = some (.int .i64 0) := by kernel_rfl
@[go_sem] theorem bytesT3 : bytesT Tryd.prog 3 = some 8 := by kernel_rfl
@[go_sem] theorem szT4 : szT Tryd.prog 4 = some 1 := by kernel_rfl
@[go_sem] theorem aggT4 : aggT Tryd.prog 4 = some false := by kernel_rfl
@[go_sem] theorem boolT4 : boolT Tryd.prog 4 = true := by kernel_rfl
@[go_sem] theorem zeroT4 : zeroT Tryd.prog 4 = some (.bool false) := by kernel_rfl
@[go_sem] theorem bytesT4 : bytesT Tryd.prog 4 = some 1 := by kernel_rfl
@[go_sem] theorem szT5 : szT Tryd.prog 5 = some 1 := by kernel_rfl
@[go_sem] theorem aggT5 : aggT Tryd.prog 5 = some false := by kernel_rfl
@[go_sem] theorem boolT5 : boolT Tryd.prog 5 = false := by kernel_rfl
@[go_sem] theorem kT5 : kT Tryd.prog 5 = some .u8 := by kernel_rfl
@[go_sem] theorem knT5 : knT Tryd.prog 5 = true := by kernel_rfl
@[go_sem] theorem zeroT5 : zeroT Tryd.prog 5 = some (.int .u8 0) := by kernel_rfl
@[go_sem] theorem bytesT5 : bytesT Tryd.prog 5 = some 1 := by kernel_rfl
@[go_sem] theorem szT9 : szT Tryd.prog 9 = some 1 := by kernel_rfl
@[go_sem] theorem aggT9 : aggT Tryd.prog 9 = some false := by kernel_rfl
@[go_sem] theorem boolT9 : boolT Tryd.prog 9 = false := by kernel_rfl
@[go_sem] theorem strT9 : Tryd.prog.underlying 9 = some .string := by kernel_rfl
@[go_sem] theorem bytesT9 : bytesT Tryd.prog 9 = some 16 := by kernel_rfl
@[go_sem] theorem szT22 : szT Tryd.prog 22 = some 8 := by kernel_rfl
@[go_sem] theorem aggT22 : aggT Tryd.prog 22 = some true := by kernel_rfl
@[go_sem] theorem boolT22 : boolT Tryd.prog 22 = false := by kernel_rfl
@[go_sem] theorem arT22 : arT Tryd.prog 22 = some (8, 5, 1) := by kernel_rfl
@[go_sem] theorem zeroT22 : zeroT Tryd.prog 22 = some (.agg #[.int .u8 0, .int .u8 0, .int .u8 0, .int .u8 0, .int .u8 0, .int .u8 0, .int .u8 0, .int .u8 0]) := by kernel_rfl
@[go_sem] theorem bytesT22 : bytesT Tryd.prog 22 = some 8 := by kernel_rfl
@[go_sem] theorem bldT22 : bldT Tryd.prog 22 = some ([.int .u8 0, .int .u8 0, .int .u8 0, .int .u8 0, .int .u8 0, .int .u8 0, .int .u8 0, .int .u8 0], fun i => some (i * 1, 1)) := by kernel_rfl
@[go_sem] theorem szT24 : szT Tryd.prog 24 = some 18 := by kernel_rfl
@[go_sem] theorem aggT24 : aggT Tryd.prog 24 = some true := by kernel_rfl
@[go_sem] theorem boolT24 : boolT Tryd.prog 24 = false := by kernel_rfl
@[go_sem] theorem fofT24_0 : fofT Tryd.prog 24 0 = some (0, 5, 1) := by kernel_rfl
@[go_sem] theorem fofT24_1 : fofT Tryd.prog 24 1 = some (1, 5, 1) := by kernel_rfl
@[go_sem] theorem fofT24_2 : fofT Tryd.prog 24 2 = some (2, 22, 8) := by kernel_rfl
@[go_sem] theorem fofT24_3 : fofT Tryd.prog 24 3 = some (10, 22, 8) := by kernel_rfl
@[go_sem] theorem zeroT24 : zeroT Tryd.prog 24 = some (.agg #[.int .u8 0, .int .u8 0, .int .u8 0, .int .u8 0, .int .u8 0, .int .u8 0, .int .u8 0, .int .u8 0, .int .u8 0, .int .u8 0, .int .u8 0, .int .u8 0, .int .u8 0, .int .u8 0, .int .u8 0, .int .u8 0, .int .u8 0, .int .u8 0]) := by kernel_rfl
@[go_sem] theorem bytesT24 : bytesT Tryd.prog 24 = some 18 := by kernel_rfl
@[go_sem] theorem bldT24 : bldT Tryd.prog 24 = some ([.int .u8 0, .int .u8 0, .int .u8 0, .int .u8 0, .int .u8 0, .int .u8 0, .int .u8 0, .int .u8 0, .int .u8 0, .int .u8 0, .int .u8 0, .int .u8 0, .int .u8 0, .int .u8 0, .int .u8 0, .int .u8 0, .int .u8 0, .int .u8 0], fun i => ([(0, 1), (1, 1), (2, 8), (10, 8)] : List (Nat × Nat))[i]?) := by kernel_rfl
@[go_sem] theorem szT25 : szT Tryd.prog 25 = some 1 := by kernel_rfl
@[go_sem] theorem aggT25 : aggT Tryd.prog 25 = some false := by kernel_rfl
@[go_sem] theorem boolT25 : boolT Tryd.prog 25 = false := by kernel_rfl
@[go_sem] theorem slT25 : slT Tryd.prog 25 = some (38, 2) := by kernel_rfl
@[go_sem] theorem zeroT25 : zeroT Tryd.prog 25 = some (.slice none 0 0) := by kernel_rfl
@[go_sem] theorem bytesT25 : bytesT Tryd.prog 25 = some 24 := by kernel_rfl
@[go_sem] theorem szT27 : szT Tryd.prog 27 = some 2 := by kernel_rfl
@[go_sem] theorem aggT27 : aggT Tryd.prog 27 = some true := by kernel_rfl
@[go_sem] theorem boolT27 : boolT Tryd.prog 27 = false := by kernel_rfl
@[go_sem] theorem fofT27_0 : fofT Tryd.prog 27 0 = some (0, 3, 1) := by kernel_rfl
@[go_sem] theorem fofT27_1 : fofT Tryd.prog 27 1 = some (1, 25, 1) := by kernel_rfl
@[go_sem] theorem zeroT27 : zeroT Tryd.prog 27 = some (.agg #[.int .i64 0, .slice none 0 0]) := by kernel_rfl
@[go_sem] theorem bytesT27 : bytesT Tryd.prog 27 = some 32 := by kernel_rfl
@[go_sem] theorem bldT27 : bldT Tryd.prog 27 = some ([.int .i64 0, .slice none 0 0], fun i => ([(0, 1), (1, 1)] : List (Nat × Nat))[i]?) := by kernel_rfl
@[go_sem] theorem szT28 : szT Tryd.prog 28 = some 1 := by kernel_rfl
@[go_sem] theorem aggT28 : aggT Tryd.prog 28 = some false := by kernel_rfl
@[go_sem] theorem boolT28 : boolT Tryd.prog 28 = false := by kernel_rfl
@[go_sem] theorem slT28 : slT Tryd.prog 28 = some (45, 2) := by kernel_rfl
@[go_sem] theorem zeroT28 : zeroT Tryd.prog 28 = some (.slice none 0 0) := by kernel_rfl
@[go_sem] theorem bytesT28 : bytesT Tryd.prog 28 = some 24 := by kernel_rfl
@[go_sem] theorem szT31 : szT Tryd.prog 31 = some 1 := by kernel_rfl
@[go_sem] theorem aggT31 : aggT Tryd.prog 31 = some false := by kernel_rfl
@[go_sem] theorem boolT31 : boolT Tryd.prog 31 = false := by kernel_rfl
@[go_sem] theorem slT31 : slT Tryd.prog 31 = some (39, 1) := by kernel_rfl
@[go_sem] theorem zeroT31 : zeroT Tryd.prog 31 = some (.slice none 0 0) := by kernel_rfl
@[go_sem] theorem bytesT31 : bytesT Tryd.prog 31 = some 24 := by kernel_rfl
@[go_sem] theorem szT33 : szT Tryd.prog 33 = some 1 := by kernel_rfl
@[go_sem] theorem aggT33 : aggT Tryd.prog 33 = some false := by kernel_rfl
@[go_sem] theorem boolT33 : boolT Tryd.prog 33 = false := by kernel_rfl
@[go_sem] theorem kT33 : kT Tryd.prog 33 = some .i64 := by kernel_rfl
@[go_sem] theorem knT33 : knT Tryd.prog 33 = true := by kernel_rfl
@[go_sem] theorem zeroT33 : zeroT Tryd.prog 33 = some (.int .i64 0) := by kernel_rfl
@[go_sem] theorem bytesT33 : bytesT Tryd.prog 33 = some 8 := by kernel_rfl
@[go_sem] theorem szT36 : szT Tryd.prog 36 = some 1 := by kernel_rfl
@[go_sem] theorem aggT36 : aggT Tryd.prog 36 = some false := by kernel_rfl
@[go_sem] theorem boolT36 : boolT Tryd.prog 36 = false := by kernel_rfl
@[go_sem] theorem slT36 : slT Tryd.prog 36 = some (3, 1) := by kernel_rfl
@[go_sem] theorem zeroT36 : zeroT Tryd.prog 36 = some (.slice none 0 0) := by kernel_rfl
@[go_sem] theorem bytesT36 : bytesT Tryd.prog 36 = some 24 := by kernel_rfl
@[go_sem] theorem szT38 : szT Tryd.prog 38 = some 2 := by kernel_rfl
@[go_sem] theorem aggT38 : aggT Tryd.prog 38 = some true := by kernel_rfl
@[go_sem] theorem boolT38 : boolT Tryd.prog 38 = false := by kernel_rfl
@[go_sem] theorem fofT38_0 : fofT Tryd.prog 38 0 = some (0, 36, 1) := by kernel_rfl
@[go_sem] theorem fofT38_1 : fofT Tryd.prog 38 1 = some (1, 36, 1) := by kernel_rfl
@[go_sem] theorem zeroT38 : zeroT Tryd.prog 38 = some (.agg #[.slice none 0 0, .slice none 0 0]) := by kernel_rfl
@[go_sem] theorem bytesT38 : bytesT Tryd.prog 38 = some 48 := by kernel_rfl
@[go_sem] theorem bldT38 : bldT Tryd.prog 38 = some ([.slice none 0 0, .slice none 0 0], fun i => ([(0, 1), (1, 1)] : List (Nat × Nat))[i]?) := by kernel_rfl
@[go_sem] theorem szT39 : szT Tryd.prog 39 = some 1 := by kernel_rfl
@[go_sem] theorem aggT39 : aggT Tryd.prog 39 = some false := by kernel_rfl
@[go_sem] theorem boolT39 : boolT Tryd.prog 39 = false := by kernel_rfl
@[go_sem] theorem kT39 : kT Tryd.prog 39 = some .u64 := by kernel_rfl
@[go_sem] theorem knT39 : knT Tryd.prog 39 = true := by kernel_rfl
@[go_sem] theorem zeroT39 : zeroT Tryd.prog 39 = some (.int .u64 0) := by kernel_rfl
@[go_sem] theorem bytesT39 : bytesT Tryd.prog 39 = some 8 := by kernel_rfl
@[go_sem] theorem szT45 : szT Tryd.prog 45 = some 2 := by kernel_rfl
@[go_sem] theorem aggT45 : aggT Tryd.prog 45 = some true := by kernel_rfl
@[go_sem] theorem boolT45 : boolT Tryd.prog 45 = false := by kernel_rfl
@[go_sem] theorem arT45 : arT Tryd.prog 45 = some (2, 39, 1) := by kernel_rfl
@[go_sem] theorem zeroT45 : zeroT Tryd.prog 45 = some (.agg #[.int .u64 0, .int .u64 0]) := by kernel_rfl
@[go_sem] theorem bytesT45 : bytesT Tryd.prog 45 = some 16 := by kernel_rfl
@[go_sem] theorem bldT45 : bldT Tryd.prog 45 = some ([.int .u64 0, .int .u64 0], fun i => some (i * 1, 1)) := by kernel_rfl
@[go_sem] theorem szT47 : szT Tryd.prog 47 = some 1 := by kernel_rfl
@[go_sem] theorem aggT47 : aggT Tryd.prog 47 = some false := by kernel_rfl
@[go_sem] theorem boolT47 : boolT Tryd.prog 47 = false := by kernel_rfl
@[go_sem] theorem mapT47 : mapT Tryd.prog 47 = some (.i64, 4) := by kernel_rfl
@[go_sem] theorem zeroT47 : zeroT Tryd.prog 47 = some (.map none) := by kernel_rfl
@[go_sem] theorem bytesT47 : bytesT Tryd.prog 47 = some 8 := by kernel_rfl
@[go_sem] theorem szT58 : szT Tryd.prog 58 = some 1 := by kernel_rfl
@[go_sem] theorem aggT58 : aggT Tryd.prog 58 = some false := by kernel_rfl
@[go_sem] theorem boolT58 : boolT Tryd.prog 58 = false := by kernel_rfl
@[go_sem] theorem mapT58 : mapT Tryd.prog 58 = some (.u64, 4) := by kernel_rfl
@[go_sem] theorem zeroT58 : zeroT Tryd.prog 58 = some (.map none) := by kernel_rfl
@[go_sem] theorem bytesT58 : bytesT Tryd.prog 58 = some 8 := by kernel_rfl
@[go_sem] theorem szT61 : szT Tryd.prog 61 = some 6 := by kernel_rfl
@[go_sem] theorem aggT61 : aggT Tryd.prog 61 = some true := by kernel_rfl
@[go_sem] theorem boolT61 : boolT Tryd.prog 61 = false := by kernel_rfl
@[go_sem] theorem arT61 : arT Tryd.prog 61 = some (6, 5, 1) := by kernel_rfl
@[go_sem] theorem zeroT61 : zeroT Tryd.prog 61 = some (.agg #[.int .u8 0, .int .u8 0, .int .u8 0, .int .u8 0, .int .u8 0, .int .u8 0]) := by kernel_rfl
@[go_sem] theorem bytesT61 : bytesT Tryd.prog 61 = some 6 := by kernel_rfl
@[go_sem] theorem bldT61 : bldT Tryd.prog 61 = some ([.int .u8 0, .int .u8 0, .int .u8 0, .int .u8 0, .int .u8 0, .int .u8 0], fun i => some (i * 1, 1)) := by kernel_rfl
@[go_sem] theorem szT62 : szT Tryd.prog 62 = some 1 := by kernel_rfl
@[go_sem] theorem aggT62 : aggT Tryd.prog 62 = some false := by kernel_rfl
@[go_sem] theorem boolT62 : boolT Tryd.prog 62 = false := by kernel_rfl
@[go_sem] theorem slT62 : slT Tryd.prog 62 = some (5, 1) := by kernel_rfl
@[go_sem] theorem zeroT62 : zeroT Tryd.prog 62 = some (.slice none 0 0) := by kernel_rfl
@[go_sem] theorem bytesT62 : bytesT Tryd.prog 62 = some 24 := by kernel_rfl
@[go_sem] theorem szT74 : szT Tryd.prog 74 = some 1 := by kernel_rfl
@[go_sem] theorem aggT74 : aggT Tryd.prog 74 = some false := by kernel_rfl
@[go_sem] theorem boolT74 : boolT Tryd.prog 74 = false := by kernel_rfl
@[go_sem] theorem slT74 : slT Tryd.prog 74 = some (36, 1) := by kernel_rfl
@[go_sem] theorem zeroT74 : zeroT Tryd.prog 74 = some (.slice none 0 0) := by kernel_rfl
@[go_sem] theorem bytesT74 : bytesT Tryd.prog 74 = some 24 := by kernel_rfl
@[go_sem] theorem szT79 : szT Tryd.prog 79 = some 1 := by kernel_rfl
@[go_sem] theorem aggT79 : aggT Tryd.prog 79 = some false := by kernel_rfl
@[go_sem] theorem boolT79 : boolT Tryd.prog 79 = false := by kernel_rfl
@[go_sem] theorem kT79 : kT Tryd.prog 79 = some .u8 := by kernel_rfl
@[go_sem] theorem knT79 : knT Tryd.prog 79 = true := by kernel_rfl
@[go_sem] theorem zeroT79 : zeroT Tryd.prog 79 = some (.int .u8 0) := by kernel_rfl
@[go_sem] theorem bytesT79 : bytesT Tryd.prog 79 = some 1 := by kernel_rfl
@[go_sem] theorem szT80 : szT Tryd.prog 80 = some 1 := by kernel_rfl
@[go_sem] theorem aggT80 : aggT Tryd.prog 80 = some false := by kernel_rfl
@[go_sem] theorem boolT80 : boolT Tryd.prog 80 = false := by kernel_rfl
@[go_sem] theorem slT80 : slT Tryd.prog 80 = some (96, 3) := by kernel_rfl
@[go_sem] theorem zeroT80 : zeroT Tryd.prog 80 = some (.slice none 0 0) := by kernel_rfl
@[go_sem] theorem bytesT80 : bytesT Tryd.prog 80 = some 24 := by kernel_rfl
@[go_sem] theorem szT82 : szT Tryd.prog 82 = some 2 := by kernel_rfl
@[go_sem] theorem aggT82 : aggT Tryd.prog 82 = some true := by kernel_rfl
@[go_sem] theorem boolT82 : boolT Tryd.prog 82 = false := by kernel_rfl
@[go_sem] theorem fofT82_0 : fofT Tryd.prog 82 0 = some (0, 79, 1) := by kernel_rfl
@[go_sem] theorem fofT82_1 : fofT Tryd.prog 82 1 = some (1, 80, 1) := by kernel_rfl
@[go_sem] theorem zeroT82 : zeroT Tryd.prog 82 = some (.agg #[.int .u8 0, .slice none 0 0]) := by kernel_rfl
@[go_sem] theorem bytesT82 : bytesT Tryd.prog 82 = some 32 := by kernel_rfl
@[go_sem] theorem bldT82 : bldT Tryd.prog 82 = some ([.int .u8 0, .slice none 0 0], fun i => ([(0, 1), (1, 1)] : List (Nat × Nat))[i]?) := by kernel_rfl
@[go_sem] theorem szT85 : szT Tryd.prog 85 = some 1 := by kernel_rfl
@[go_sem] theorem aggT85 : aggT Tryd.prog 85 = some false := by kernel_rfl
@[go_sem] theorem boolT85 : boolT Tryd.prog 85 = false := by kernel_rfl
@[go_sem] theorem slT85 : slT Tryd.prog 85 = some (89, 2) := by kernel_rfl
@[go_sem] theorem zeroT85 : zeroT Tryd.prog 85 = some (.slice none 0 0) := by kernel_rfl
@[go_sem] theorem bytesT85 : bytesT Tryd.prog 85 = some 24 := by kernel_rfl
@[go_sem] theorem szT89 : szT Tryd.prog 89 = some 2 := by kernel_rfl
@[go_sem] theorem aggT89 : aggT Tryd.prog 89 = some true := by kernel_rfl
@[go_sem] theorem boolT89 : boolT Tryd.prog 89 = false := by kernel_rfl
@[go_sem] theorem fofT89_0 : fofT Tryd.prog 89 0 = some (0, 79, 1) := by kernel_rfl
@[go_sem] theorem fofT89_1 : fofT Tryd.prog 89 1 = some (1, 79, 1) := by kernel_rfl
@[go_sem] theorem zeroT89 : zeroT Tryd.prog 89 = some (.agg #[.int .u8 0, .int .u8 0]) := by kernel_rfl
@[go_sem] theorem bytesT89 : bytesT Tryd.prog 89 = some 2 := by kernel_rfl
@[go_sem] theorem bldT89 : bldT Tryd.prog 89 = some ([.int .u8 0, .int .u8 0], fun i => ([(0, 1), (1, 1)] : List (Nat × Nat))[i]?) := by kernel_rfl
@[go_sem] theorem eqA89 (x0 y0 : Int) (x1 y1 : Int) : eqA Tryd.prog 89 [.val (.int .u8 x0), .val (.int .u8 x1)] [.val (.int .u8 y0), .val (.int .u8 y1)] = some (x0 == y0 && (x1 == y1 && true)) := by kernel_rfl
@[go_sem] theorem szT96 : szT Tryd.prog 96 = some 3 := by kernel_rfl
@[go_sem] theorem aggT96 : aggT Tryd.prog 96 = some true := by kernel_rfl
@[go_sem] theorem boolT96 : boolT Tryd.prog 96 = false := by kernel_rfl
@[go_sem] theorem fofT96_0 : fofT Tryd.prog 96 0 = some (0, 89, 2) := by kernel_rfl
@[go_sem] theorem fofT96_1 : fofT Tryd.prog 96 1 = some (2, 3, 1) := by kernel_rfl
@[go_sem] theorem zeroT96 : zeroT Tryd.prog 96 = some (.agg #[.int .u8 0, .int .u8 0, .int .i64 0]) := by kernel_rfl
@[go_sem] theorem bytesT96 : bytesT Tryd.prog 96 = some 16 := by kernel_rfl
@[go_sem] theorem bldT96 : bldT Tryd.prog 96 = some ([.int .u8 0, .int .u8 0, .int .i64 0], fun i => ([(0, 2), (2, 1)] : List (Nat × Nat))[i]?) := by kernel_rfl
@[go_sem] theorem szT108 : szT Tryd.prog 108 = some 2 := by kernel_rfl
@[go_sem] theorem aggT108 : aggT Tryd.prog 108 = some true := by kernel_rfl
@[go_sem] theorem boolT108 : boolT Tryd.prog 108 = false := by kernel_rfl
@[go_sem] theorem fofT108_0 : fofT Tryd.prog 108 0 = some (0, 79, 1) := by kernel_rfl
@[go_sem] theorem fofT108_1 : fofT Tryd.prog 108 1 = some (1, 36, 1) := by kernel_rfl
@[go_sem] theorem zeroT108 : zeroT Tryd.prog 108 = some (.agg #[.int .u8 0, .slice none 0 0]) := by kernel_rfl
@[go_sem] theorem bytesT108 : bytesT Tryd.prog 108 = some 32 := by kernel_rfl
@[go_sem] theorem bldT108 : bldT Tryd.prog 108 = some ([.int .u8 0, .slice none 0 0], fun i => ([(0, 1), (1, 1)] : List (Nat × Nat))[i]?) := by kernel_rfl
@[go_sem] theorem szT109 : szT Tryd.prog 109 = some 1 := by kernel_rfl
@[go_sem] theorem aggT109 : aggT Tryd.prog 109 = some false := by kernel_rfl
@[go_sem] theorem boolT109 : boolT Tryd.prog 109 = false := by kernel_rfl
@[go_sem] theorem slT109 : slT Tryd.prog 109 = some (108, 2) := by kernel_rfl
@[go_sem] theorem zeroT109 : zeroT Tryd.prog 109 = some (.slice none 0 0) := by kernel_rfl
@[go_sem] theorem bytesT109 : bytesT Tryd.prog 109 = some 24 := by kernel_rfl
@[go_sem] theorem szT110 : szT Tryd.prog 110 = some 1 := by kernel_rfl
@[go_sem] theorem aggT110 : aggT Tryd.prog 110 = some false := by kernel_rfl
@[go_sem] theorem boolT110 : boolT Tryd.prog 110 = false := by kernel_rfl
@[go_sem] theorem slT110 : slT Tryd.prog 110 = some (79, 1) := by kernel_rfl
@[go_sem] theorem zeroT110 : zeroT Tryd.prog 110 = some (.slice none 0 0) := by kernel_rfl
@[go_sem] theorem bytesT110 : bytesT Tryd.prog 110 = some 24 := by kernel_rfl
@[go_sem] theorem szT129 : szT Tryd.prog 129 = some 1 := by kernel_rfl
@[go_sem] theorem aggT129 : aggT Tryd.prog 129 = some false := by kernel_rfl
@[go_sem] theorem boolT129 : boolT Tryd.prog 129 = false := by kernel_rfl
@[go_sem] theorem kT129 : kT Tryd.prog 129 = some .u32 := by kernel_rfl
@[go_sem] theorem knT129 : knT Tryd.prog 129 = true := by kernel_rfl
@[go_sem] theorem zeroT129 : zeroT Tryd.prog 129 = some (.int .u32 0) := by kernel_rfl
@[go_sem] theorem bytesT129 : bytesT Tryd.prog 129 = some 4 := by kernel_rfl
@[go_sem] theorem szT131 : szT Tryd.prog 131 = some 1 := by kernel_rfl
@[go_sem] theorem aggT131 : aggT Tryd.prog 131 = some false := by kernel_rfl
@[go_sem] theorem boolT131 : boolT Tryd.prog 131 = false := by kernel_rfl
@[go_sem] theorem kT131 : kT Tryd.prog 131 = some .u64 := by kernel_rfl
@[go_sem] theorem knT131 : knT Tryd.prog 131 = true := by kernel_rfl
@[go_sem] theorem zeroT131 : zeroT Tryd.prog 131 = some (.int .u64 0) := by kernel_rfl
@[go_sem] theorem bytesT131 : bytesT Tryd.prog 131 = some 8 := by kernel_rfl
@[go_sem] theorem szT143 : szT Tryd.prog 143 = some 32 := by kernel_rfl
@[go_sem] theorem aggT143 : aggT Tryd.prog 143 = some true := by kernel_rfl
@[go_sem] theorem boolT143 : boolT Tryd.prog 143 = false := by kernel_rfl
@[go_sem] theorem arT143 : arT Tryd.prog 143 = some (32, 5, 1) := by kernel_rfl
@[go_sem] theorem zeroT143 : zeroT Tryd.prog 143 = some (.agg #[.int .u8 0, .int .u8 0, .int .u8 0, .int .u8 0, .int .u8 0, .int .u8 0, .int .u8 0, .int .u8 0, .int .u8 0, .int .u8 0, .int .u8 0, .int .u8 0, .int .u8 0, .int .u8 0, .int .u8 0, .int .u8 0, .int .u8 0, .int .u8 0, .int .u8 0, .int .u8 0, .int .u8 0, .int .u8 0, .int .u8 0, .int .u8 0, .int .u8 0, .int .u8 0, .int .u8 0, .int .u8 0, .int .u8 0, .int .u8 0, .int .u8 0, .int .u8 0]) := by kernel_rfl
@[go_sem] theorem bytesT143 : bytesT Tryd.prog 143 = some 32 := by kernel_rfl
@[go_sem] theorem bldT143 : bldT Tryd.prog 143 = some ([.int .u8 0, .int .u8 0, .int .u8 0, .int .u8 0, .int .u8 0, .int .u8 0, .int .u8 0, .int .u8 0, .int .u8 0, .int .u8 0, .int .u8 0, .int .u8 0, .int .u8 0, .int .u8 0, .int .u8 0, .int .u8 0, .int .u8 0, .int .u8 0, .int .u8 0, .int .u8 0, .int .u8 0, .int .u8 0, .int .u8 0, .int .u8 0, .int .u8 0, .int .u8 0, .int .u8 0, .int .u8 0, .int .u8 0, .int .u8 0, .int .u8 0, .int .u8 0], fun i => some (i * 1, 1)) := by kernel_rfl
@[go_sem] theorem szT144 : szT Tryd.prog 144 = some 64 := by kernel_rfl
@[go_sem] theorem aggT144 : aggT Tryd.prog 144 = some true := by kernel_rfl
@[go_sem] theorem boolT144 : boolT Tryd.prog 144 = false := by kernel_rfl
@[go_sem] theorem arT144 : arT Tryd.prog 144 = some (64, 5, 1) := by kernel_rfl
@[go_sem] theorem zeroT144 : zeroT Tryd.prog 144 = some (.agg #[.int .u8 0, .int .u8 0, .int .u8 0, .int .u8 0, .int .u8 0, .int .u8 0, .int .u8 0, .int .u8 0, .int .u8 0, .int .u8 0, .int .u8 0, .int .u8 0, .int .u8 0, .int .u8 0, .int .u8 0, .int .u8 0, .int .u8 0, .int .u8 0, .int .u8 0, .int .u8 0, .int .u8 0, .int .u8 0, .int .u8 0, .int .u8 0, .int .u8 0, .int .u8 0, .int .u8 0, .int .u8 0, .int .u8 0, .int .u8 0, .int .u8 0, .int .u8 0, .int .u8 0, .int .u8 0, .int .u8 0, .int .u8 0, .int .u8 0, .int .u8 0, .int .u8 0, .int .u8 0, .int .u8 0, .int .u8 0, .int .u8 0, .int .u8 0, .int .u8 0, .int .u8 0, .int .u8 0, .int .u8 0, .int .u8 0, .int .u8 0, .int .u8 0, .int .u8 0, .int .u8 0, .int .u8 0, .int .u8 0, .int .u8 0, .int .u8 0, .int .u8 0, .int .u8 0, .int .u8 0, .int .u8 0, .int .u8 0, .int .u8 0, .int .u8 0]) := by kernel_rfl
@[go_sem] theorem bytesT144 : bytesT Tryd.prog 144 = some 64 := by kernel_rfl
@[go_sem] theorem bldT144 : bldT Tryd.prog 144 = some ([.int .u8 0, .int .u8 0, .int .u8 0, .int .u8 0, .int .u8 0, .int .u8 0, .int .u8 0, .int .u8 0, .int .u8 0, .int .u8 0, .int .u8 0, .int .u8 0, .int .u8 0, .int .u8 0, .int .u8 0, .int .u8 0, .int .u8 0, .int .u8 0, .int .u8 0, .int .u8 0, .int .u8 0, .int .u8 0, .int .u8 0, .int .u8 0, .int .u8 0, .int .u8 0, .int .u8 0, .int .u8 0, .int .u8 0, .int .u8 0, .int .u8 0, .int .u8 0, .int .u8 0, .int .u8 0, .int .u8 0, .int .u8 0, .int .u8 0, .int .u8 0, .int .u8 0, .int .u8 0, .int .u8 0, .int .u8 0, .int .u8 0, .int .u8 0, .int .u8 0, .int .u8 0, .int .u8 0, .int .u8 0, .int .u8 0, .int .u8 0, .int .u8 0, .int .u8 0, .int .u8 0, .int .u8 0, .int .u8 0, .int .u8 0, .int .u8 0, .int .u8 0, .int .u8 0, .int .u8 0, .int .u8 0, .int .u8 0, .int .u8 0, .int .u8 0], fun i => some (i * 1, 1)) := by kernel_rfl
attribute [go_sem] Tryd.results3 Tryd.results4 Tryd.results5 Tryd.results6 Tryd.results7 Tryd.results8 Tryd.results9 Tryd.results10 Tryd.results11 Tryd.results12 Tryd.results13 Tryd.results14 Tryd.results15 Tryd.results16 Tryd.results17 Tryd.results18 Tryd.results19 Tryd.results20 Tryd.results21 Tryd.results22 Tryd.results23 Tryd.results24 Tryd.results25 Tryd.results26 Tryd.results27 Tryd.results28 Tryd.results29 Tryd.results30 Tryd.results31 Tryd.results32 Tryd.results33 Tryd.results34 Tryd.results35 Tryd.results36 Tryd.results37 Tryd.results38 Tryd.results39 Tryd.results40 Tryd.results41 Tryd.results42 Tryd.results43 Tryd.results44 Tryd.results45 Tryd.results46 Tryd.results47 Tryd.results48 Tryd.results49 Tryd.results50 Tryd.results51 Tryd.results52 Tryd.results53 Tryd.results54 Tryd.results55 Tryd.results56 Tryd.results57 Tryd.results58 Tryd.results59 Tryd.results60 Tryd.results61 Tryd.results62 Tryd.results63 Tryd.results64 Tryd.results65 Tryd.results66 Tryd.results67 Tryd.results68 Tryd.results69 Tryd.results70 Tryd.results71 Tryd.results73 Tryd.results74 Tryd.results75 Tryd.results76 Tryd.results77 Tryd.results78 Tryd.results79 Tryd.results80 Tryd.results81 Tryd.results82 Tryd.results83 Tryd.results84 Tryd.results85 Tryd.results94 Tryd.results95 Tryd.results96 Tryd.results132 Tryd.results133 Tryd.results134 Tryd.results135
end Go.V
