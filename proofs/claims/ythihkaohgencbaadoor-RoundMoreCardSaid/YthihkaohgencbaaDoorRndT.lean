/-
  Facts of types. Conditions: none.
-/
import Derived.Test.YthihkaohgencbaaDoorVCalls
import Derived.KernelRfl
import Derived.Test.YthihkaohgencbaaDoorProg
set_option linter.unusedVariables false
set_option linter.unusedSimpArgs false
set_option linter.deprecated false
namespace Go.V
open Go.Proofs
set_option linter.unusedVariables false

theorem mixed : Tryd.prog.follows .mixedOrders = true := by kernel_rfl
@[go_sem] theorem szT3 : szT Tryd.prog 3 = some 1 := by kernel_rfl
@[go_sem] theorem aggT3 : aggT Tryd.prog 3 = some false := by kernel_rfl
@[go_sem] theorem boolT3 : boolT Tryd.prog 3 = false := by kernel_rfl
@[go_sem] theorem kT3 : kT Tryd.prog 3 = some .i64 := by kernel_rfl
@[go_sem] theorem knT3 : knT Tryd.prog 3 = true := by kernel_rfl
@[go_sem] theorem zeroT3 : zeroT Tryd.prog 3 = some (.int .i64 0) := by kernel_rfl
@[go_sem] theorem bytesT3 : bytesT Tryd.prog 3 = some 8 := by kernel_rfl
@[go_sem] theorem szT4 : szT Tryd.prog 4 = some 1 := by kernel_rfl
@[go_sem] theorem aggT4 : aggT Tryd.prog 4 = some false := by kernel_rfl
@[go_sem] theorem boolT4 : boolT Tryd.prog 4 = true := by kernel_rfl
@[go_sem] theorem zeroT4 : zeroT Tryd.prog 4 = some (.bool false) := by kernel_rfl
@[go_sem] theorem bytesT4 : bytesT Tryd.prog 4 = some 1 := by kernel_rfl
@[go_sem] theorem szT5 : szT Tryd.prog 5 = some 1 := by kernel_rfl
@[go_sem] theorem aggT5 : aggT Tryd.prog 5 = some false := by kernel_rfl
@[go_sem] theorem boolT5 : boolT Tryd.prog 5 = false := by kernel_rfl
@[go_sem] theorem kT5 : kT Tryd.prog 5 = some .u8 := by kernel_rfl
@[go_sem] theorem knT5 : knT Tryd.prog 5 = true := by kernel_rfl
@[go_sem] theorem zeroT5 : zeroT Tryd.prog 5 = some (.int .u8 0) := by kernel_rfl
@[go_sem] theorem bytesT5 : bytesT Tryd.prog 5 = some 1 := by kernel_rfl
@[go_sem] theorem szT9 : szT Tryd.prog 9 = some 1 := by kernel_rfl
@[go_sem] theorem aggT9 : aggT Tryd.prog 9 = some false := by kernel_rfl
@[go_sem] theorem boolT9 : boolT Tryd.prog 9 = false := by kernel_rfl
@[go_sem] theorem strT9 : Tryd.prog.underlying 9 = some .string := by kernel_rfl
@[go_sem] theorem bytesT9 : bytesT Tryd.prog 9 = some 16 := by kernel_rfl
@[go_sem] theorem szT22 : szT Tryd.prog 22 = some 1 := by kernel_rfl
@[go_sem] theorem aggT22 : aggT Tryd.prog 22 = some false := by kernel_rfl
@[go_sem] theorem boolT22 : boolT Tryd.prog 22 = false := by kernel_rfl
@[go_sem] theorem slT22 : slT Tryd.prog 22 = some (72, 2) := by kernel_rfl
@[go_sem] theorem zeroT22 : zeroT Tryd.prog 22 = some (.slice none 0 0) := by kernel_rfl
@[go_sem] theorem bytesT22 : bytesT Tryd.prog 22 = some 24 := by kernel_rfl
@[go_sem] theorem szT24 : szT Tryd.prog 24 = some 2 := by kernel_rfl
@[go_sem] theorem aggT24 : aggT Tryd.prog 24 = some true := by kernel_rfl
@[go_sem] theorem boolT24 : boolT Tryd.prog 24 = false := by kernel_rfl
@[go_sem] theorem fofT24_0 : fofT Tryd.prog 24 0 = some (0, 3, 1) := by kernel_rfl
@[go_sem] theorem fofT24_1 : fofT Tryd.prog 24 1 = some (1, 22, 1) := by kernel_rfl
@[go_sem] theorem zeroT24 : zeroT Tryd.prog 24 = some (.agg #[.int .i64 0, .slice none 0 0]) := by kernel_rfl
@[go_sem] theorem bytesT24 : bytesT Tryd.prog 24 = some 32 := by kernel_rfl
@[go_sem] theorem bldT24 : bldT Tryd.prog 24 = some ([.int .i64 0, .slice none 0 0], fun i => ([(0, 1), (1, 1)] : List (Nat × Nat))[i]?) := by kernel_rfl
@[go_sem] theorem szT25 : szT Tryd.prog 25 = some 1 := by kernel_rfl
@[go_sem] theorem aggT25 : aggT Tryd.prog 25 = some false := by kernel_rfl
@[go_sem] theorem boolT25 : boolT Tryd.prog 25 = false := by kernel_rfl
@[go_sem] theorem slT25 : slT Tryd.prog 25 = some (3, 1) := by kernel_rfl
@[go_sem] theorem zeroT25 : zeroT Tryd.prog 25 = some (.slice none 0 0) := by kernel_rfl
@[go_sem] theorem bytesT25 : bytesT Tryd.prog 25 = some 24 := by kernel_rfl
@[go_sem] theorem szT28 : szT Tryd.prog 28 = some 2 := by kernel_rfl
@[go_sem] theorem aggT28 : aggT Tryd.prog 28 = some true := by kernel_rfl
@[go_sem] theorem boolT28 : boolT Tryd.prog 28 = false := by kernel_rfl
@[go_sem] theorem fofT28_0 : fofT Tryd.prog 28 0 = some (0, 3, 1) := by kernel_rfl
@[go_sem] theorem fofT28_1 : fofT Tryd.prog 28 1 = some (1, 22, 1) := by kernel_rfl
@[go_sem] theorem zeroT28 : zeroT Tryd.prog 28 = some (.agg #[.int .i64 0, .slice none 0 0]) := by kernel_rfl
@[go_sem] theorem bytesT28 : bytesT Tryd.prog 28 = some 32 := by kernel_rfl
@[go_sem] theorem bldT28 : bldT Tryd.prog 28 = some ([.int .i64 0, .slice none 0 0], fun i => ([(0, 1), (1, 1)] : List (Nat × Nat))[i]?) := by kernel_rfl
@[go_sem] theorem szT29 : szT Tryd.prog 29 = some 1 := by kernel_rfl
@[go_sem] theorem aggT29 : aggT Tryd.prog 29 = some false := by kernel_rfl
@[go_sem] theorem boolT29 : boolT Tryd.prog 29 = false := by kernel_rfl
@[go_sem] theorem kT29 : kT Tryd.prog 29 = some .i64 := by kernel_rfl
@[go_sem] theorem knT29 : knT Tryd.prog 29 = true := by kernel_rfl
@[go_sem] theorem zeroT29 : zeroT Tryd.prog 29 = some (.int .i64 0) := by kernel_rfl
@[go_sem] theorem bytesT29 : bytesT Tryd.prog 29 = some 8 := by kernel_rfl
@[go_sem] theorem szT45 : szT Tryd.prog 45 = some 1 := by kernel_rfl
@[go_sem] theorem aggT45 : aggT Tryd.prog 45 = some false := by kernel_rfl
@[go_sem] theorem boolT45 : boolT Tryd.prog 45 = false := by kernel_rfl
@[go_sem] theorem slT45 : slT Tryd.prog 45 = some (25, 1) := by kernel_rfl
@[go_sem] theorem zeroT45 : zeroT Tryd.prog 45 = some (.slice none 0 0) := by kernel_rfl
@[go_sem] theorem bytesT45 : bytesT Tryd.prog 45 = some 24 := by kernel_rfl
@[go_sem] theorem szT56 : szT Tryd.prog 56 = some 6 := by kernel_rfl
@[go_sem] theorem aggT56 : aggT Tryd.prog 56 = some true := by kernel_rfl
@[go_sem] theorem boolT56 : boolT Tryd.prog 56 = false := by kernel_rfl
@[go_sem] theorem arT56 : arT Tryd.prog 56 = some (6, 5, 1) := by kernel_rfl
@[go_sem] theorem zeroT56 : zeroT Tryd.prog 56 = some (.agg #[.int .u8 0, .int .u8 0, .int .u8 0, .int .u8 0, .int .u8 0, .int .u8 0]) := by kernel_rfl
@[go_sem] theorem bytesT56 : bytesT Tryd.prog 56 = some 6 := by kernel_rfl
@[go_sem] theorem bldT56 : bldT Tryd.prog 56 = some ([.int .u8 0, .int .u8 0, .int .u8 0, .int .u8 0, .int .u8 0, .int .u8 0], fun i => some (i * 1, 1)) := by kernel_rfl
@[go_sem] theorem szT57 : szT Tryd.prog 57 = some 2 := by kernel_rfl
@[go_sem] theorem aggT57 : aggT Tryd.prog 57 = some true := by kernel_rfl
@[go_sem] theorem boolT57 : boolT Tryd.prog 57 = false := by kernel_rfl
@[go_sem] theorem arT57 : arT Tryd.prog 57 = some (2, 5, 1) := by kernel_rfl
@[go_sem] theorem zeroT57 : zeroT Tryd.prog 57 = some (.agg #[.int .u8 0, .int .u8 0]) := by kernel_rfl
@[go_sem] theorem bytesT57 : bytesT Tryd.prog 57 = some 2 := by kernel_rfl
@[go_sem] theorem bldT57 : bldT Tryd.prog 57 = some ([.int .u8 0, .int .u8 0], fun i => some (i * 1, 1)) := by kernel_rfl
@[go_sem] theorem szT58 : szT Tryd.prog 58 = some 18 := by kernel_rfl
@[go_sem] theorem aggT58 : aggT Tryd.prog 58 = some true := by kernel_rfl
@[go_sem] theorem boolT58 : boolT Tryd.prog 58 = false := by kernel_rfl
@[go_sem] theorem arT58 : arT Tryd.prog 58 = some (9, 57, 2) := by kernel_rfl
@[go_sem] theorem zeroT58 : zeroT Tryd.prog 58 = some (.agg (List.replicate 18 (.int .u8 0)).toArray) := by kernel_rfl
@[go_sem] theorem bytesT58 : bytesT Tryd.prog 58 = some 18 := by kernel_rfl
@[go_sem] theorem szT60 : szT Tryd.prog 60 = some 27 := by kernel_rfl
@[go_sem] theorem aggT60 : aggT Tryd.prog 60 = some true := by kernel_rfl
@[go_sem] theorem boolT60 : boolT Tryd.prog 60 = false := by kernel_rfl
@[go_sem] theorem fofT60_0 : fofT Tryd.prog 60 0 = some (0, 5, 1) := by kernel_rfl
@[go_sem] theorem fofT60_1 : fofT Tryd.prog 60 1 = some (1, 5, 1) := by kernel_rfl
@[go_sem] theorem fofT60_2 : fofT Tryd.prog 60 2 = some (2, 5, 1) := by kernel_rfl
@[go_sem] theorem fofT60_3 : fofT Tryd.prog 60 3 = some (3, 56, 6) := by kernel_rfl
@[go_sem] theorem fofT60_4 : fofT Tryd.prog 60 4 = some (9, 58, 18) := by kernel_rfl
@[go_sem] theorem zeroT60 : zeroT Tryd.prog 60 = some (.agg (List.replicate 27 (.int .u8 0)).toArray) := by kernel_rfl
@[go_sem] theorem bytesT60 : bytesT Tryd.prog 60 = some 27 := by kernel_rfl
@[go_sem] theorem bldT60 : bldT Tryd.prog 60 = some ([.int .u8 0, .int .u8 0, .int .u8 0, .int .u8 0, .int .u8 0, .int .u8 0, .int .u8 0, .int .u8 0, .int .u8 0, .int .u8 0, .int .u8 0, .int .u8 0, .int .u8 0, .int .u8 0, .int .u8 0, .int .u8 0, .int .u8 0, .int .u8 0, .int .u8 0, .int .u8 0, .int .u8 0, .int .u8 0, .int .u8 0, .int .u8 0, .int .u8 0, .int .u8 0, .int .u8 0], fun i => ([(0, 1), (1, 1), (2, 1), (3, 6), (9, 18)] : List (Nat × Nat))[i]?) := by kernel_rfl
@[go_sem] theorem szT62 : szT Tryd.prog 62 = some 1 := by kernel_rfl
@[go_sem] theorem aggT62 : aggT Tryd.prog 62 = some false := by kernel_rfl
@[go_sem] theorem boolT62 : boolT Tryd.prog 62 = false := by kernel_rfl
@[go_sem] theorem kT62 : kT Tryd.prog 62 = some .u64 := by kernel_rfl
@[go_sem] theorem knT62 : knT Tryd.prog 62 = true := by kernel_rfl
@[go_sem] theorem zeroT62 : zeroT Tryd.prog 62 = some (.int .u64 0) := by kernel_rfl
@[go_sem] theorem bytesT62 : bytesT Tryd.prog 62 = some 8 := by kernel_rfl
@[go_sem] theorem szT69 : szT Tryd.prog 69 = some 1 := by kernel_rfl
@[go_sem] theorem aggT69 : aggT Tryd.prog 69 = some false := by kernel_rfl
@[go_sem] theorem boolT69 : boolT Tryd.prog 69 = false := by kernel_rfl
@[go_sem] theorem zeroT69 : zeroT Tryd.prog 69 = some (.nilFunc) := by kernel_rfl
@[go_sem] theorem bytesT69 : bytesT Tryd.prog 69 = some 8 := by kernel_rfl
@[go_sem] theorem szT71 : szT Tryd.prog 71 = some 1 := by kernel_rfl
@[go_sem] theorem aggT71 : aggT Tryd.prog 71 = some false := by kernel_rfl
@[go_sem] theorem boolT71 : boolT Tryd.prog 71 = false := by kernel_rfl
@[go_sem] theorem zeroT71 : zeroT Tryd.prog 71 = some (.nilFunc) := by kernel_rfl
@[go_sem] theorem bytesT71 : bytesT Tryd.prog 71 = some 8 := by kernel_rfl
@[go_sem] theorem szT72 : szT Tryd.prog 72 = some 2 := by kernel_rfl
@[go_sem] theorem aggT72 : aggT Tryd.prog 72 = some true := by kernel_rfl
@[go_sem] theorem boolT72 : boolT Tryd.prog 72 = false := by kernel_rfl
@[go_sem] theorem arT72 : arT Tryd.prog 72 = some (2, 3, 1) := by kernel_rfl
@[go_sem] theorem zeroT72 : zeroT Tryd.prog 72 = some (.agg #[.int .i64 0, .int .i64 0]) := by kernel_rfl
@[go_sem] theorem bytesT72 : bytesT Tryd.prog 72 = some 16 := by kernel_rfl
@[go_sem] theorem bldT72 : bldT Tryd.prog 72 = some ([.int .i64 0, .int .i64 0], fun i => some (i * 1, 1)) := by kernel_rfl
@[go_sem] theorem szT73 : szT Tryd.prog 73 = some 3 := by kernel_rfl
@[go_sem] theorem aggT73 : aggT Tryd.prog 73 = some true := by kernel_rfl
@[go_sem] theorem boolT73 : boolT Tryd.prog 73 = false := by kernel_rfl
@[go_sem] theorem arT73 : arT Tryd.prog 73 = some (3, 5, 1) := by kernel_rfl
@[go_sem] theorem zeroT73 : zeroT Tryd.prog 73 = some (.agg #[.int .u8 0, .int .u8 0, .int .u8 0]) := by kernel_rfl
@[go_sem] theorem bytesT73 : bytesT Tryd.prog 73 = some 3 := by kernel_rfl
@[go_sem] theorem bldT73 : bldT Tryd.prog 73 = some ([.int .u8 0, .int .u8 0, .int .u8 0], fun i => some (i * 1, 1)) := by kernel_rfl
@[go_sem] theorem szT74 : szT Tryd.prog 74 = some 1 := by kernel_rfl
@[go_sem] theorem aggT74 : aggT Tryd.prog 74 = some false := by kernel_rfl
@[go_sem] theorem boolT74 : boolT Tryd.prog 74 = false := by kernel_rfl
@[go_sem] theorem slT74 : slT Tryd.prog 74 = some (5, 1) := by kernel_rfl
@[go_sem] theorem zeroT74 : zeroT Tryd.prog 74 = some (.slice none 0 0) := by kernel_rfl
@[go_sem] theorem bytesT74 : bytesT Tryd.prog 74 = some 24 := by kernel_rfl
@[go_sem] theorem szT83 : szT Tryd.prog 83 = some 1 := by kernel_rfl
@[go_sem] theorem aggT83 : aggT Tryd.prog 83 = some false := by kernel_rfl
@[go_sem] theorem boolT83 : boolT Tryd.prog 83 = false := by kernel_rfl
@[go_sem] theorem slT83 : slT Tryd.prog 83 = some (62, 1) := by kernel_rfl
@[go_sem] theorem zeroT83 : zeroT Tryd.prog 83 = some (.slice none 0 0) := by kernel_rfl
@[go_sem] theorem bytesT83 : bytesT Tryd.prog 83 = some 24 := by kernel_rfl
@[go_sem] theorem szT99 : szT Tryd.prog 99 = some 1 := by kernel_rfl
@[go_sem] theorem aggT99 : aggT Tryd.prog 99 = some false := by kernel_rfl
@[go_sem] theorem boolT99 : boolT Tryd.prog 99 = false := by kernel_rfl
@[go_sem] theorem zeroT99 : zeroT Tryd.prog 99 = some (.nilFunc) := by kernel_rfl
@[go_sem] theorem bytesT99 : bytesT Tryd.prog 99 = some 8 := by kernel_rfl
@[go_sem] theorem szT103 : szT Tryd.prog 103 = some 1 := by kernel_rfl
@[go_sem] theorem aggT103 : aggT Tryd.prog 103 = some false := by kernel_rfl
@[go_sem] theorem boolT103 : boolT Tryd.prog 103 = false := by kernel_rfl
@[go_sem] theorem zeroT103 : zeroT Tryd.prog 103 = some (.nilFunc) := by kernel_rfl
@[go_sem] theorem bytesT103 : bytesT Tryd.prog 103 = some 8 := by kernel_rfl
@[go_sem] theorem szT109 : szT Tryd.prog 109 = some 1 := by kernel_rfl
@[go_sem] theorem aggT109 : aggT Tryd.prog 109 = some false := by kernel_rfl
@[go_sem] theorem boolT109 : boolT Tryd.prog 109 = false := by kernel_rfl
@[go_sem] theorem zeroT109 : zeroT Tryd.prog 109 = some (.nilFunc) := by kernel_rfl
@[go_sem] theorem bytesT109 : bytesT Tryd.prog 109 = some 8 := by kernel_rfl
@[go_sem] theorem szT110 : szT Tryd.prog 110 = some 1 := by kernel_rfl
@[go_sem] theorem aggT110 : aggT Tryd.prog 110 = some false := by kernel_rfl
@[go_sem] theorem boolT110 : boolT Tryd.prog 110 = false := by kernel_rfl
@[go_sem] theorem mapT110 : mapT Tryd.prog 110 = some (.u64, 3) := by kernel_rfl
@[go_sem] theorem zeroT110 : zeroT Tryd.prog 110 = some (.map none) := by kernel_rfl
@[go_sem] theorem bytesT110 : bytesT Tryd.prog 110 = some 8 := by kernel_rfl
@[go_sem] theorem szT116 : szT Tryd.prog 116 = some 2 := by kernel_rfl
@[go_sem] theorem aggT116 : aggT Tryd.prog 116 = some true := by kernel_rfl
@[go_sem] theorem boolT116 : boolT Tryd.prog 116 = false := by kernel_rfl
@[go_sem] theorem arT116 : arT Tryd.prog 116 = some (2, 62, 1) := by kernel_rfl
@[go_sem] theorem zeroT116 : zeroT Tryd.prog 116 = some (.agg #[.int .u64 0, .int .u64 0]) := by kernel_rfl
@[go_sem] theorem bytesT116 : bytesT Tryd.prog 116 = some 16 := by kernel_rfl
@[go_sem] theorem bldT116 : bldT Tryd.prog 116 = some ([.int .u64 0, .int .u64 0], fun i => some (i * 1, 1)) := by kernel_rfl
@[go_sem] theorem szT117 : szT Tryd.prog 117 = some 1 := by kernel_rfl
@[go_sem] theorem aggT117 : aggT Tryd.prog 117 = some false := by kernel_rfl
@[go_sem] theorem boolT117 : boolT Tryd.prog 117 = false := by kernel_rfl
@[go_sem] theorem slT117 : slT Tryd.prog 117 = some (57, 2) := by kernel_rfl
@[go_sem] theorem zeroT117 : zeroT Tryd.prog 117 = some (.slice none 0 0) := by kernel_rfl
@[go_sem] theorem bytesT117 : bytesT Tryd.prog 117 = some 24 := by kernel_rfl
@[go_sem] theorem szT120 : szT Tryd.prog 120 = some 1 := by kernel_rfl
@[go_sem] theorem aggT120 : aggT Tryd.prog 120 = some false := by kernel_rfl
@[go_sem] theorem boolT120 : boolT Tryd.prog 120 = false := by kernel_rfl
@[go_sem] theorem kT120 : kT Tryd.prog 120 = some .u32 := by kernel_rfl
@[go_sem] theorem knT120 : knT Tryd.prog 120 = true := by kernel_rfl
@[go_sem] theorem zeroT120 : zeroT Tryd.prog 120 = some (.int .u32 0) := by kernel_rfl
@[go_sem] theorem bytesT120 : bytesT Tryd.prog 120 = some 4 := by kernel_rfl
@[go_sem] theorem szT122 : szT Tryd.prog 122 = some 1 := by kernel_rfl
@[go_sem] theorem aggT122 : aggT Tryd.prog 122 = some false := by kernel_rfl
@[go_sem] theorem boolT122 : boolT Tryd.prog 122 = false := by kernel_rfl
@[go_sem] theorem kT122 : kT Tryd.prog 122 = some .u64 := by kernel_rfl
@[go_sem] theorem knT122 : knT Tryd.prog 122 = true := by kernel_rfl
@[go_sem] theorem zeroT122 : zeroT Tryd.prog 122 = some (.int .u64 0) := by kernel_rfl
@[go_sem] theorem bytesT122 : bytesT Tryd.prog 122 = some 8 := by kernel_rfl
@[go_sem] theorem szT139 : szT Tryd.prog 139 = some 32 := by kernel_rfl
@[go_sem] theorem aggT139 : aggT Tryd.prog 139 = some true := by kernel_rfl
@[go_sem] theorem boolT139 : boolT Tryd.prog 139 = false := by kernel_rfl
@[go_sem] theorem arT139 : arT Tryd.prog 139 = some (32, 5, 1) := by kernel_rfl
@[go_sem] theorem zeroT139 : zeroT Tryd.prog 139 = some (.agg (List.replicate 32 (.int .u8 0)).toArray) := by kernel_rfl
@[go_sem] theorem bytesT139 : bytesT Tryd.prog 139 = some 32 := by kernel_rfl
@[go_sem] theorem szT140 : szT Tryd.prog 140 = some 64 := by kernel_rfl
@[go_sem] theorem aggT140 : aggT Tryd.prog 140 = some true := by kernel_rfl
@[go_sem] theorem boolT140 : boolT Tryd.prog 140 = false := by kernel_rfl
@[go_sem] theorem arT140 : arT Tryd.prog 140 = some (64, 5, 1) := by kernel_rfl
@[go_sem] theorem zeroT140 : zeroT Tryd.prog 140 = some (.agg (List.replicate 64 (.int .u8 0)).toArray) := by kernel_rfl
@[go_sem] theorem bytesT140 : bytesT Tryd.prog 140 = some 64 := by kernel_rfl
attribute [go_sem] beq_self_eq_true Option.all_some Option.all_none Option.some_beq_some Bool.and_self List.size_toArray cond_true cond_false beq_true beq_false bne_self_eq_false List.append_eq
attribute [go_sem] Tryd.results3 Tryd.results4 Tryd.results5 Tryd.results6 Tryd.results7 Tryd.results8 Tryd.results9 Tryd.results10 Tryd.results11 Tryd.results12 Tryd.results13 Tryd.results14 Tryd.results15 Tryd.results16 Tryd.results17 Tryd.results18 Tryd.results19 Tryd.results20 Tryd.results21 Tryd.results22 Tryd.results23 Tryd.results24 Tryd.results25 Tryd.results26 Tryd.results27 Tryd.results28 Tryd.results29 Tryd.results30 Tryd.results31 Tryd.results32 Tryd.results33 Tryd.results34 Tryd.results35 Tryd.results36 Tryd.results37 Tryd.results38 Tryd.results39 Tryd.results40 Tryd.results41 Tryd.results42 Tryd.results43 Tryd.results44 Tryd.results45 Tryd.results46 Tryd.results47 Tryd.results48 Tryd.results49 Tryd.results50 Tryd.results51 Tryd.results52 Tryd.results53 Tryd.results54 Tryd.results55 Tryd.results56 Tryd.results57 Tryd.results58 Tryd.results59 Tryd.results60 Tryd.results61 Tryd.results62 Tryd.results63 Tryd.results64 Tryd.results65 Tryd.results66 Tryd.results67 Tryd.results68 Tryd.results69 Tryd.results70 Tryd.results71 Tryd.results72 Tryd.results73 Tryd.results74 Tryd.results75 Tryd.results76 Tryd.results77 Tryd.results78 Tryd.results79 Tryd.results80 Tryd.results81 Tryd.results82 Tryd.results83 Tryd.results84 Tryd.results85 Tryd.results86 Tryd.results87 Tryd.results88 Tryd.results89 Tryd.results90 Tryd.results91 Tryd.results92 Tryd.results93 Tryd.results94 Tryd.results95 Tryd.results96 Tryd.results97 Tryd.results98 Tryd.results99 Tryd.results100 Tryd.results101 Tryd.results103 Tryd.results104 Tryd.results105 Tryd.results106 Tryd.results107 Tryd.results108 Tryd.results109 Tryd.results118 Tryd.results119 Tryd.results142 Tryd.results143 Tryd.results144 Tryd.results145
end Go.V
