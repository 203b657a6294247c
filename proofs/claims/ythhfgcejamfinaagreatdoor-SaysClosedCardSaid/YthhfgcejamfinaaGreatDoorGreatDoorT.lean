/-
  Facts of types. Conditions: none.
-/
import Derived.Test.YthhfgcejamfinaaGreatDoorVCalls
import Derived.KernelRfl
import Derived.Test.YthhfgcejamfinaaGreatDoorProg
set_option linter.unusedVariables false
set_option linter.unusedSimpArgs false
set_option linter.deprecated false
namespace Go.V
open Go.Proofs
set_option linter.unusedVariables false

theorem mixed : Tryz.prog.follows .mixedOrders = true := by kernel_rfl
@[go_sem] theorem szT3 : szT Tryz.prog 3 = some 1 := by kernel_rfl
@[go_sem] theorem aggT3 : aggT Tryz.prog 3 = some false := by kernel_rfl
@[go_sem] theorem boolT3 : boolT Tryz.prog 3 = false := by kernel_rfl
@[go_sem] theorem kT3 : kT Tryz.prog 3 = some .i64 := by kernel_rfl
@[go_sem] theorem knT3 : knT Tryz.prog 3 = true := by kernel_rfl
@[go_sem] theorem zeroT3 : zeroT Tryz.prog 3 = some (.int .i64 0) := by kernel_rfl
@[go_sem] theorem bytesT3 : bytesT Tryz.prog 3 = some 8 := by kernel_rfl
@[go_sem] theorem szT4 : szT Tryz.prog 4 = some 1 := by kernel_rfl
@[go_sem] theorem aggT4 : aggT Tryz.prog 4 = some false := by kernel_rfl
@[go_sem] theorem boolT4 : boolT Tryz.prog 4 = true := by kernel_rfl
@[go_sem] theorem zeroT4 : zeroT Tryz.prog 4 = some (.bool false) := by kernel_rfl
@[go_sem] theorem bytesT4 : bytesT Tryz.prog 4 = some 1 := by kernel_rfl
@[go_sem] theorem szT5 : szT Tryz.prog 5 = some 1 := by kernel_rfl
@[go_sem] theorem aggT5 : aggT Tryz.prog 5 = some false := by kernel_rfl
@[go_sem] theorem boolT5 : boolT Tryz.prog 5 = false := by kernel_rfl
@[go_sem] theorem kT5 : kT Tryz.prog 5 = some .u8 := by kernel_rfl
@[go_sem] theorem knT5 : knT Tryz.prog 5 = true := by kernel_rfl
@[go_sem] theorem zeroT5 : zeroT Tryz.prog 5 = some (.int .u8 0) := by kernel_rfl
@[go_sem] theorem bytesT5 : bytesT Tryz.prog 5 = some 1 := by kernel_rfl
@[go_sem] theorem szT9 : szT Tryz.prog 9 = some 1 := by kernel_rfl
@[go_sem] theorem aggT9 : aggT Tryz.prog 9 = some false := by kernel_rfl
@[go_sem] theorem boolT9 : boolT Tryz.prog 9 = false := by kernel_rfl
@[go_sem] theorem strT9 : Tryz.prog.underlying 9 = some .string := by kernel_rfl
@[go_sem] theorem bytesT9 : bytesT Tryz.prog 9 = some 16 := by kernel_rfl
@[go_sem] theorem szT22 : szT Tryz.prog 22 = some 8 := by kernel_rfl
@[go_sem] theorem aggT22 : aggT Tryz.prog 22 = some true := by kernel_rfl
@[go_sem] theorem boolT22 : boolT Tryz.prog 22 = false := by kernel_rfl
@[go_sem] theorem arT22 : arT Tryz.prog 22 = some (8, 5, 1) := by kernel_rfl
@[go_sem] theorem zeroT22 : zeroT Tryz.prog 22 = some (.agg #[.int .u8 0, .int .u8 0, .int .u8 0, .int .u8 0, .int .u8 0, .int .u8 0, .int .u8 0, .int .u8 0]) := by kernel_rfl
@[go_sem] theorem bytesT22 : bytesT Tryz.prog 22 = some 8 := by kernel_rfl
@[go_sem] theorem bldT22 : bldT Tryz.prog 22 = some ([.int .u8 0, .int .u8 0, .int .u8 0, .int .u8 0, .int .u8 0, .int .u8 0, .int .u8 0, .int .u8 0], fun i => some (i * 1, 1)) := by kernel_rfl
@[go_sem] theorem szT24 : szT Tryz.prog 24 = some 18 := by kernel_rfl
@[go_sem] theorem aggT24 : aggT Tryz.prog 24 = some true := by kernel_rfl
@[go_sem] theorem boolT24 : boolT Tryz.prog 24 = false := by kernel_rfl
@[go_sem] theorem fofT24_0 : fofT Tryz.prog 24 0 = some (0, 5, 1) := by kernel_rfl
@[go_sem] theorem fofT24_1 : fofT Tryz.prog 24 1 = some (1, 5, 1) := by kernel_rfl
@[go_sem] theorem fofT24_2 : fofT Tryz.prog 24 2 = some (2, 22, 8) := by kernel_rfl
@[go_sem] theorem fofT24_3 : fofT Tryz.prog 24 3 = some (10, 22, 8) := by kernel_rfl
@[go_sem] theorem zeroT24 : zeroT Tryz.prog 24 = some (.agg #[.int .u8 0, .int .u8 0, .int .u8 0, .int .u8 0, .int .u8 0, .int .u8 0, .int .u8 0, .int .u8 0, .int .u8 0, .int .u8 0, .int .u8 0, .int .u8 0, .int .u8 0, .int .u8 0, .int .u8 0, .int .u8 0, .int .u8 0, .int .u8 0]) := by kernel_rfl
@[go_sem] theorem bytesT24 : bytesT Tryz.prog 24 = some 18 := by kernel_rfl
@[go_sem] theorem bldT24 : bldT Tryz.prog 24 = some ([.int .u8 0, .int .u8 0, .int .u8 0, .int .u8 0, .int .u8 0, .int .u8 0, .int .u8 0, .int .u8 0, .int .u8 0, .int .u8 0, .int .u8 0, .int .u8 0, .int .u8 0, .int .u8 0, .int .u8 0, .int .u8 0, .int .u8 0, .int .u8 0], fun i => ([(0, 1), (1, 1), (2, 8), (10, 8)] : List (Nat × Nat))[i]?) := by kernel_rfl
@[go_sem] theorem szT25 : szT Tryz.prog 25 = some 1 := by kernel_rfl
@[go_sem] theorem aggT25 : aggT Tryz.prog 25 = some false := by kernel_rfl
@[go_sem] theorem boolT25 : boolT Tryz.prog 25 = false := by kernel_rfl
@[go_sem] theorem slT25 : slT Tryz.prog 25 = some (55, 2) := by kernel_rfl
@[go_sem] theorem zeroT25 : zeroT Tryz.prog 25 = some (.slice none 0 0) := by kernel_rfl
@[go_sem] theorem bytesT25 : bytesT Tryz.prog 25 = some 24 := by kernel_rfl
@[go_sem] theorem szT27 : szT Tryz.prog 27 = some 2 := by kernel_rfl
@[go_sem] theorem aggT27 : aggT Tryz.prog 27 = some true := by kernel_rfl
@[go_sem] theorem boolT27 : boolT Tryz.prog 27 = false := by kernel_rfl
@[go_sem] theorem fofT27_0 : fofT Tryz.prog 27 0 = some (0, 3, 1) := by kernel_rfl
@[go_sem] theorem fofT27_1 : fofT Tryz.prog 27 1 = some (1, 25, 1) := by kernel_rfl
@[go_sem] theorem zeroT27 : zeroT Tryz.prog 27 = some (.agg #[.int .i64 0, .slice none 0 0]) := by kernel_rfl
@[go_sem] theorem bytesT27 : bytesT Tryz.prog 27 = some 32 := by kernel_rfl
@[go_sem] theorem bldT27 : bldT Tryz.prog 27 = some ([.int .i64 0, .slice none 0 0], fun i => ([(0, 1), (1, 1)] : List (Nat × Nat))[i]?) := by kernel_rfl
@[go_sem] theorem szT28 : szT Tryz.prog 28 = some 1 := by kernel_rfl
@[go_sem] theorem aggT28 : aggT Tryz.prog 28 = some false := by kernel_rfl
@[go_sem] theorem boolT28 : boolT Tryz.prog 28 = false := by kernel_rfl
@[go_sem] theorem slT28 : slT Tryz.prog 28 = some (53, 2) := by kernel_rfl
@[go_sem] theorem zeroT28 : zeroT Tryz.prog 28 = some (.slice none 0 0) := by kernel_rfl
@[go_sem] theorem bytesT28 : bytesT Tryz.prog 28 = some 24 := by kernel_rfl
@[go_sem] theorem szT31 : szT Tryz.prog 31 = some 1 := by kernel_rfl
@[go_sem] theorem aggT31 : aggT Tryz.prog 31 = some false := by kernel_rfl
@[go_sem] theorem boolT31 : boolT Tryz.prog 31 = false := by kernel_rfl
@[go_sem] theorem kT31 : kT Tryz.prog 31 = some .u64 := by kernel_rfl
@[go_sem] theorem knT31 : knT Tryz.prog 31 = true := by kernel_rfl
@[go_sem] theorem zeroT31 : zeroT Tryz.prog 31 = some (.int .u64 0) := by kernel_rfl
@[go_sem] theorem bytesT31 : bytesT Tryz.prog 31 = some 8 := by kernel_rfl
@[go_sem] theorem szT32 : szT Tryz.prog 32 = some 1 := by kernel_rfl
@[go_sem] theorem aggT32 : aggT Tryz.prog 32 = some false := by kernel_rfl
@[go_sem] theorem boolT32 : boolT Tryz.prog 32 = false := by kernel_rfl
@[go_sem] theorem slT32 : slT Tryz.prog 32 = some (34, 1) := by kernel_rfl
@[go_sem] theorem zeroT32 : zeroT Tryz.prog 32 = some (.slice none 0 0) := by kernel_rfl
@[go_sem] theorem bytesT32 : bytesT Tryz.prog 32 = some 24 := by kernel_rfl
@[go_sem] theorem szT34 : szT Tryz.prog 34 = some 1 := by kernel_rfl
@[go_sem] theorem aggT34 : aggT Tryz.prog 34 = some false := by kernel_rfl
@[go_sem] theorem boolT34 : boolT Tryz.prog 34 = false := by kernel_rfl
@[go_sem] theorem slT34 : slT Tryz.prog 34 = some (3, 1) := by kernel_rfl
@[go_sem] theorem zeroT34 : zeroT Tryz.prog 34 = some (.slice none 0 0) := by kernel_rfl
@[go_sem] theorem bytesT34 : bytesT Tryz.prog 34 = some 24 := by kernel_rfl
@[go_sem] theorem szT38 : szT Tryz.prog 38 = some 1 := by kernel_rfl
@[go_sem] theorem aggT38 : aggT Tryz.prog 38 = some false := by kernel_rfl
@[go_sem] theorem boolT38 : boolT Tryz.prog 38 = false := by kernel_rfl
@[go_sem] theorem kT38 : kT Tryz.prog 38 = some .i64 := by kernel_rfl
@[go_sem] theorem knT38 : knT Tryz.prog 38 = true := by kernel_rfl
@[go_sem] theorem zeroT38 : zeroT Tryz.prog 38 = some (.int .i64 0) := by kernel_rfl
@[go_sem] theorem bytesT38 : bytesT Tryz.prog 38 = some 8 := by kernel_rfl
@[go_sem] theorem szT42 : szT Tryz.prog 42 = some 1 := by kernel_rfl
@[go_sem] theorem aggT42 : aggT Tryz.prog 42 = some false := by kernel_rfl
@[go_sem] theorem boolT42 : boolT Tryz.prog 42 = false := by kernel_rfl
@[go_sem] theorem slT42 : slT Tryz.prog 42 = some (31, 1) := by kernel_rfl
@[go_sem] theorem zeroT42 : zeroT Tryz.prog 42 = some (.slice none 0 0) := by kernel_rfl
@[go_sem] theorem bytesT42 : bytesT Tryz.prog 42 = some 24 := by kernel_rfl
@[go_sem] theorem szT53 : szT Tryz.prog 53 = some 2 := by kernel_rfl
@[go_sem] theorem aggT53 : aggT Tryz.prog 53 = some true := by kernel_rfl
@[go_sem] theorem boolT53 : boolT Tryz.prog 53 = false := by kernel_rfl
@[go_sem] theorem arT53 : arT Tryz.prog 53 = some (2, 31, 1) := by kernel_rfl
@[go_sem] theorem zeroT53 : zeroT Tryz.prog 53 = some (.agg #[.int .u64 0, .int .u64 0]) := by kernel_rfl
@[go_sem] theorem bytesT53 : bytesT Tryz.prog 53 = some 16 := by kernel_rfl
@[go_sem] theorem bldT53 : bldT Tryz.prog 53 = some ([.int .u64 0, .int .u64 0], fun i => some (i * 1, 1)) := by kernel_rfl
@[go_sem] theorem szT55 : szT Tryz.prog 55 = some 2 := by kernel_rfl
@[go_sem] theorem aggT55 : aggT Tryz.prog 55 = some true := by kernel_rfl
@[go_sem] theorem boolT55 : boolT Tryz.prog 55 = false := by kernel_rfl
@[go_sem] theorem fofT55_0 : fofT Tryz.prog 55 0 = some (0, 34, 1) := by kernel_rfl
@[go_sem] theorem fofT55_1 : fofT Tryz.prog 55 1 = some (1, 34, 1) := by kernel_rfl
@[go_sem] theorem zeroT55 : zeroT Tryz.prog 55 = some (.agg #[.slice none 0 0, .slice none 0 0]) := by kernel_rfl
@[go_sem] theorem bytesT55 : bytesT Tryz.prog 55 = some 48 := by kernel_rfl
@[go_sem] theorem bldT55 : bldT Tryz.prog 55 = some ([.slice none 0 0, .slice none 0 0], fun i => ([(0, 1), (1, 1)] : List (Nat × Nat))[i]?) := by kernel_rfl
@[go_sem] theorem szT60 : szT Tryz.prog 60 = some 1 := by kernel_rfl
@[go_sem] theorem aggT60 : aggT Tryz.prog 60 = some false := by kernel_rfl
@[go_sem] theorem boolT60 : boolT Tryz.prog 60 = false := by kernel_rfl
@[go_sem] theorem kT60 : kT Tryz.prog 60 = some .u8 := by kernel_rfl
@[go_sem] theorem knT60 : knT Tryz.prog 60 = true := by kernel_rfl
@[go_sem] theorem zeroT60 : zeroT Tryz.prog 60 = some (.int .u8 0) := by kernel_rfl
@[go_sem] theorem bytesT60 : bytesT Tryz.prog 60 = some 1 := by kernel_rfl
@[go_sem] theorem szT61 : szT Tryz.prog 61 = some 1 := by kernel_rfl
@[go_sem] theorem aggT61 : aggT Tryz.prog 61 = some false := by kernel_rfl
@[go_sem] theorem boolT61 : boolT Tryz.prog 61 = false := by kernel_rfl
@[go_sem] theorem slT61 : slT Tryz.prog 61 = some (101, 3) := by kernel_rfl
@[go_sem] theorem zeroT61 : zeroT Tryz.prog 61 = some (.slice none 0 0) := by kernel_rfl
@[go_sem] theorem bytesT61 : bytesT Tryz.prog 61 = some 24 := by kernel_rfl
@[go_sem] theorem szT63 : szT Tryz.prog 63 = some 2 := by kernel_rfl
@[go_sem] theorem aggT63 : aggT Tryz.prog 63 = some true := by kernel_rfl
@[go_sem] theorem boolT63 : boolT Tryz.prog 63 = false := by kernel_rfl
@[go_sem] theorem fofT63_0 : fofT Tryz.prog 63 0 = some (0, 60, 1) := by kernel_rfl
@[go_sem] theorem fofT63_1 : fofT Tryz.prog 63 1 = some (1, 61, 1) := by kernel_rfl
@[go_sem] theorem zeroT63 : zeroT Tryz.prog 63 = some (.agg #[.int .u8 0, .slice none 0 0]) := by kernel_rfl
@[go_sem] theorem bytesT63 : bytesT Tryz.prog 63 = some 32 := by kernel_rfl
@[go_sem] theorem bldT63 : bldT Tryz.prog 63 = some ([.int .u8 0, .slice none 0 0], fun i => ([(0, 1), (1, 1)] : List (Nat × Nat))[i]?) := by kernel_rfl
@[go_sem] theorem szT66 : szT Tryz.prog 66 = some 1 := by kernel_rfl
@[go_sem] theorem aggT66 : aggT Tryz.prog 66 = some false := by kernel_rfl
@[go_sem] theorem boolT66 : boolT Tryz.prog 66 = false := by kernel_rfl
@[go_sem] theorem slT66 : slT Tryz.prog 66 = some (60, 1) := by kernel_rfl
@[go_sem] theorem zeroT66 : zeroT Tryz.prog 66 = some (.slice none 0 0) := by kernel_rfl
@[go_sem] theorem bytesT66 : bytesT Tryz.prog 66 = some 24 := by kernel_rfl
@[go_sem] theorem szT84 : szT Tryz.prog 84 = some 1 := by kernel_rfl
@[go_sem] theorem aggT84 : aggT Tryz.prog 84 = some false := by kernel_rfl
@[go_sem] theorem boolT84 : boolT Tryz.prog 84 = false := by kernel_rfl
@[go_sem] theorem kT84 : kT Tryz.prog 84 = some .u32 := by kernel_rfl
@[go_sem] theorem knT84 : knT Tryz.prog 84 = true := by kernel_rfl
@[go_sem] theorem zeroT84 : zeroT Tryz.prog 84 = some (.int .u32 0) := by kernel_rfl
@[go_sem] theorem bytesT84 : bytesT Tryz.prog 84 = some 4 := by kernel_rfl
@[go_sem] theorem szT86 : szT Tryz.prog 86 = some 1 := by kernel_rfl
@[go_sem] theorem aggT86 : aggT Tryz.prog 86 = some false := by kernel_rfl
@[go_sem] theorem boolT86 : boolT Tryz.prog 86 = false := by kernel_rfl
@[go_sem] theorem kT86 : kT Tryz.prog 86 = some .u64 := by kernel_rfl
@[go_sem] theorem knT86 : knT Tryz.prog 86 = true := by kernel_rfl
@[go_sem] theorem zeroT86 : zeroT Tryz.prog 86 = some (.int .u64 0) := by kernel_rfl
@[go_sem] theorem bytesT86 : bytesT Tryz.prog 86 = some 8 := by kernel_rfl
@[go_sem] theorem szT99 : szT Tryz.prog 99 = some 2 := by kernel_rfl
@[go_sem] theorem aggT99 : aggT Tryz.prog 99 = some true := by kernel_rfl
@[go_sem] theorem boolT99 : boolT Tryz.prog 99 = false := by kernel_rfl
@[go_sem] theorem fofT99_0 : fofT Tryz.prog 99 0 = some (0, 60, 1) := by kernel_rfl
@[go_sem] theorem fofT99_1 : fofT Tryz.prog 99 1 = some (1, 60, 1) := by kernel_rfl
@[go_sem] theorem zeroT99 : zeroT Tryz.prog 99 = some (.agg #[.int .u8 0, .int .u8 0]) := by kernel_rfl
@[go_sem] theorem bytesT99 : bytesT Tryz.prog 99 = some 2 := by kernel_rfl
@[go_sem] theorem bldT99 : bldT Tryz.prog 99 = some ([.int .u8 0, .int .u8 0], fun i => ([(0, 1), (1, 1)] : List (Nat × Nat))[i]?) := by kernel_rfl
@[go_sem] theorem eqA99 (x0 y0 : Int) (x1 y1 : Int) : eqA Tryz.prog 99 [.val (.int .u8 x0), .val (.int .u8 x1)] [.val (.int .u8 y0), .val (.int .u8 y1)] = some (x0 == y0 && (x1 == y1 && true)) := by kernel_rfl
@[go_sem] theorem szT101 : szT Tryz.prog 101 = some 3 := by kernel_rfl
@[go_sem] theorem aggT101 : aggT Tryz.prog 101 = some true := by kernel_rfl
@[go_sem] theorem boolT101 : boolT Tryz.prog 101 = false := by kernel_rfl
@[go_sem] theorem fofT101_0 : fofT Tryz.prog 101 0 = some (0, 99, 2) := by kernel_rfl
@[go_sem] theorem fofT101_1 : fofT Tryz.prog 101 1 = some (2, 3, 1) := by kernel_rfl
@[go_sem] theorem zeroT101 : zeroT Tryz.prog 101 = some (.agg #[.int .u8 0, .int .u8 0, .int .i64 0]) := by kernel_rfl
@[go_sem] theorem bytesT101 : bytesT Tryz.prog 101 = some 16 := by kernel_rfl
@[go_sem] theorem bldT101 : bldT Tryz.prog 101 = some ([.int .u8 0, .int .u8 0, .int .i64 0], fun i => ([(0, 2), (2, 1)] : List (Nat × Nat))[i]?) := by kernel_rfl
@[go_sem] theorem szT106 : szT Tryz.prog 106 = some 2 := by kernel_rfl
@[go_sem] theorem aggT106 : aggT Tryz.prog 106 = some true := by kernel_rfl
@[go_sem] theorem boolT106 : boolT Tryz.prog 106 = false := by kernel_rfl
@[go_sem] theorem fofT106_0 : fofT Tryz.prog 106 0 = some (0, 60, 1) := by kernel_rfl
@[go_sem] theorem fofT106_1 : fofT Tryz.prog 106 1 = some (1, 34, 1) := by kernel_rfl
@[go_sem] theorem zeroT106 : zeroT Tryz.prog 106 = some (.agg #[.int .u8 0, .slice none 0 0]) := by kernel_rfl
@[go_sem] theorem bytesT106 : bytesT Tryz.prog 106 = some 32 := by kernel_rfl
@[go_sem] theorem bldT106 : bldT Tryz.prog 106 = some ([.int .u8 0, .slice none 0 0], fun i => ([(0, 1), (1, 1)] : List (Nat × Nat))[i]?) := by kernel_rfl
@[go_sem] theorem szT107 : szT Tryz.prog 107 = some 1 := by kernel_rfl
@[go_sem] theorem aggT107 : aggT Tryz.prog 107 = some false := by kernel_rfl
@[go_sem] theorem boolT107 : boolT Tryz.prog 107 = false := by kernel_rfl
@[go_sem] theorem slT107 : slT Tryz.prog 107 = some (106, 2) := by kernel_rfl
@[go_sem] theorem zeroT107 : zeroT Tryz.prog 107 = some (.slice none 0 0) := by kernel_rfl
@[go_sem] theorem bytesT107 : bytesT Tryz.prog 107 = some 24 := by kernel_rfl
@[go_sem] theorem szT110 : szT Tryz.prog 110 = some 1 := by kernel_rfl
@[go_sem] theorem aggT110 : aggT Tryz.prog 110 = some false := by kernel_rfl
@[go_sem] theorem boolT110 : boolT Tryz.prog 110 = false := by kernel_rfl
@[go_sem] theorem slT110 : slT Tryz.prog 110 = some (99, 2) := by kernel_rfl
@[go_sem] theorem zeroT110 : zeroT Tryz.prog 110 = some (.slice none 0 0) := by kernel_rfl
@[go_sem] theorem bytesT110 : bytesT Tryz.prog 110 = some 24 := by kernel_rfl
@[go_sem] theorem szT119 : szT Tryz.prog 119 = some 32 := by kernel_rfl
@[go_sem] theorem aggT119 : aggT Tryz.prog 119 = some true := by kernel_rfl
@[go_sem] theorem boolT119 : boolT Tryz.prog 119 = false := by kernel_rfl
@[go_sem] theorem arT119 : arT Tryz.prog 119 = some (32, 5, 1) := by kernel_rfl
@[go_sem] theorem zeroT119 : zeroT Tryz.prog 119 = some (.agg #[.int .u8 0, .int .u8 0, .int .u8 0, .int .u8 0, .int .u8 0, .int .u8 0, .int .u8 0, .int .u8 0, .int .u8 0, .int .u8 0, .int .u8 0, .int .u8 0, .int .u8 0, .int .u8 0, .int .u8 0, .int .u8 0, .int .u8 0, .int .u8 0, .int .u8 0, .int .u8 0, .int .u8 0, .int .u8 0, .int .u8 0, .int .u8 0, .int .u8 0, .int .u8 0, .int .u8 0, .int .u8 0, .int .u8 0, .int .u8 0, .int .u8 0, .int .u8 0]) := by kernel_rfl
@[go_sem] theorem bytesT119 : bytesT Tryz.prog 119 = some 32 := by kernel_rfl
@[go_sem] theorem bldT119 : bldT Tryz.prog 119 = some ([.int .u8 0, .int .u8 0, .int .u8 0, .int .u8 0, .int .u8 0, .int .u8 0, .int .u8 0, .int .u8 0, .int .u8 0, .int .u8 0, .int .u8 0, .int .u8 0, .int .u8 0, .int .u8 0, .int .u8 0, .int .u8 0, .int .u8 0, .int .u8 0, .int .u8 0, .int .u8 0, .int .u8 0, .int .u8 0, .int .u8 0, .int .u8 0, .int .u8 0, .int .u8 0, .int .u8 0, .int .u8 0, .int .u8 0, .int .u8 0, .int .u8 0, .int .u8 0], fun i => some (i * 1, 1)) := by kernel_rfl
@[go_sem] theorem szT120 : szT Tryz.prog 120 = some 64 := by kernel_rfl
@[go_sem] theorem aggT120 : aggT Tryz.prog 120 = some true := by kernel_rfl
@[go_sem] theorem boolT120 : boolT Tryz.prog 120 = false := by kernel_rfl
@[go_sem] theorem arT120 : arT Tryz.prog 120 = some (64, 5, 1) := by kernel_rfl
@[go_sem] theorem zeroT120 : zeroT Tryz.prog 120 = some (.agg #[.int .u8 0, .int .u8 0, .int .u8 0, .int .u8 0, .int .u8 0, .int .u8 0, .int .u8 0, .int .u8 0, .int .u8 0, .int .u8 0, .int .u8 0, .int .u8 0, .int .u8 0, .int .u8 0, .int .u8 0, .int .u8 0, .int .u8 0, .int .u8 0, .int .u8 0, .int .u8 0, .int .u8 0, .int .u8 0, .int .u8 0, .int .u8 0, .int .u8 0, .int .u8 0, .int .u8 0, .int .u8 0, .int .u8 0, .int .u8 0, .int .u8 0, .int .u8 0, .int .u8 0, .int .u8 0, .int .u8 0, .int .u8 0, .int .u8 0, .int .u8 0, .int .u8 0, .int .u8 0, .int .u8 0, .int .u8 0, .int .u8 0, .int .u8 0, .int .u8 0, .int .u8 0, .int .u8 0, .int .u8 0, .int .u8 0, .int .u8 0, .int .u8 0, .int .u8 0, .int .u8 0, .int .u8 0, .int .u8 0, .int .u8 0, .int .u8 0, .int .u8 0, .int .u8 0, .int .u8 0, .int .u8 0, .int .u8 0, .int .u8 0, .int .u8 0]) := by kernel_rfl
@[go_sem] theorem bytesT120 : bytesT Tryz.prog 120 = some 64 := by kernel_rfl
@[go_sem] theorem bldT120 : bldT Tryz.prog 120 = some ([.int .u8 0, .int .u8 0, .int .u8 0, .int .u8 0, .int .u8 0, .int .u8 0, .int .u8 0, .int .u8 0, .int .u8 0, .int .u8 0, .int .u8 0, .int .u8 0, .int .u8 0, .int .u8 0, .int .u8 0, .int .u8 0, .int .u8 0, .int .u8 0, .int .u8 0, .int .u8 0, .int .u8 0, .int .u8 0, .int .u8 0, .int .u8 0, .int .u8 0, .int .u8 0, .int .u8 0, .int .u8 0, .int .u8 0, .int .u8 0, .int .u8 0, .int .u8 0, .int .u8 0, .int .u8 0, .int .u8 0, .int .u8 0, .int .u8 0, .int .u8 0, .int .u8 0, .int .u8 0, .int .u8 0, .int .u8 0, .int .u8 0, .int .u8 0, .int .u8 0, .int .u8 0, .int .u8 0, .int .u8 0, .int .u8 0, .int .u8 0, .int .u8 0, .int .u8 0, .int .u8 0, .int .u8 0, .int .u8 0, .int .u8 0, .int .u8 0, .int .u8 0, .int .u8 0, .int .u8 0, .int .u8 0, .int .u8 0, .int .u8 0, .int .u8 0], fun i => some (i * 1, 1)) := by kernel_rfl
attribute [go_sem] Tryz.results3 Tryz.results4 Tryz.results5 Tryz.results6 Tryz.results7 Tryz.results8 Tryz.results9 Tryz.results10 Tryz.results11 Tryz.results12 Tryz.results13 Tryz.results14 Tryz.results15 Tryz.results16 Tryz.results17 Tryz.results18 Tryz.results20 Tryz.results21 Tryz.results22 Tryz.results23 Tryz.results24 Tryz.results25 Tryz.results26 Tryz.results27 Tryz.results28 Tryz.results29 Tryz.results30 Tryz.results31 Tryz.results32 Tryz.results33 Tryz.results34 Tryz.results35 Tryz.results36 Tryz.results37 Tryz.results38 Tryz.results39 Tryz.results40 Tryz.results41 Tryz.results42 Tryz.results51 Tryz.results52 Tryz.results53 Tryz.results54 Tryz.results55 Tryz.results56 Tryz.results57 Tryz.results58 Tryz.results59 Tryz.results60 Tryz.results61 Tryz.results62 Tryz.results63 Tryz.results64 Tryz.results65 Tryz.results66 Tryz.results67 Tryz.results68 Tryz.results69 Tryz.results70 Tryz.results71 Tryz.results78 Tryz.results79 Tryz.results80 Tryz.results81 Tryz.results83 Tryz.results84 Tryz.results94 Tryz.results95 Tryz.results96 Tryz.results129 Tryz.results130 Tryz.results131 Tryz.results132
end Go.V
