/-
  Facts of types. Conditions: none.
-/
import Derived.Test.YtnblnnfikpenpaaDoorVCalls
import Derived.KernelRfl
import Derived.Test.YtnblnnfikpenpaaDoorProg
set_option linter.unusedVariables false
set_option linter.unusedSimpArgs false
set_option linter.deprecated false
namespace Go.V
open Go.Proofs
set_option linter.unusedVariables false

theorem mixed : Tryd.prog.follows .mixedOrders = true := by kernel_rfl
@[go_sem] theorem szT3 : szT Tryd.prog 3 = some 1 := by kernel_rfl
@[go_sem] theorem aggT3 : aggT Tryd.prog 3 = some false := by kernel_rfl
@[go_sem] theorem boolT3 : boolT Tryd.prog 3 = false := by kernel_rfl
@[go_sem] theorem kT3 : kT Tryd.prog 3 = some .i64 := by kernel_rfl
@[go_sem] theorem knT3 : knT Tryd.prog 3 = true := by kernel_rfl
@[go_sem] theorem zeroT3 : zeroT Tryd.prog 3 = some (.int .i64 0) := by kernel_rfl
@[go_sem] theorem bytesT3 : bytesT Tryd.prog 3 = some 8 := by kernel_rfl
@[go_sem] theorem szT4 : szT Tryd.prog 4 = some 1 := by kernel_rfl
@[go_sem] theorem aggT4 : aggT Tryd.prog 4 = some false := by kernel_rfl
@[go_sem] theorem boolT4 : boolT Tryd.prog 4 = true := by kernel_rfl
@[go_sem] theorem zeroT4 : zeroT Tryd.prog 4 = some (.bool false) := by kernel_rfl
@[go_sem] theorem bytesT4 : bytesT Tryd.prog 4 = some 1 := by kernel_rfl
@[go_sem] theorem szT5 : szT Tryd.prog 5 = some 1 := by kernel_rfl
@[go_sem] theorem aggT5 : aggT Tryd.prog 5 = some false := by kernel_rfl
@[go_sem] theorem boolT5 : boolT Tryd.prog 5 = false := by kernel_rfl
@[go_sem] theorem kT5 : kT Tryd.prog 5 = some .u8 := by kernel_rfl
@[go_sem] theorem knT5 : knT Tryd.prog 5 = true := by kernel_rfl
@[go_sem] theorem zeroT5 : zeroT Tryd.prog 5 = some (.int .u8 0) := by kernel_rfl
@[go_sem] theorem bytesT5 : bytesT Tryd.prog 5 = some 1 := by kernel_rfl
@[go_sem] theorem szT9 : szT Tryd.prog 9 = some 1 := by kernel_rfl
@[go_sem] theorem aggT9 : aggT Tryd.prog 9 = some false := by kernel_rfl
@[go_sem] theorem boolT9 : boolT Tryd.prog 9 = false := by kernel_rfl
@[go_sem] theorem strT9 : Tryd.prog.underlying 9 = some .string := by kernel_rfl
@[go_sem] theorem bytesT9 : bytesT Tryd.prog 9 = some 16 := by kernel_rfl
@[go_sem] theorem szT22 : szT Tryd.prog 22 = some 1 := by kernel_rfl
@[go_sem] theorem aggT22 : aggT Tryd.prog 22 = some false := by kernel_rfl
@[go_sem] theorem boolT22 : boolT Tryd.prog 22 = false := by kernel_rfl
@[go_sem] theorem slT22 : slT Tryd.prog 22 = some (3, 1) := by kernel_rfl
@[go_sem] theorem zeroT22 : zeroT Tryd.prog 22 = some (.slice none 0 0) := by kernel_rfl
@[go_sem] theorem bytesT22 : bytesT Tryd.prog 22 = some 24 := by kernel_rfl
@[go_sem] theorem szT24 : szT Tryd.prog 24 = some 1 := by kernel_rfl
@[go_sem] theorem aggT24 : aggT Tryd.prog 24 = some false := by kernel_rfl
@[go_sem] theorem boolT24 : boolT Tryd.prog 24 = false := by kernel_rfl
@[go_sem] theorem kT24 : kT Tryd.prog 24 = some .i64 := by kernel_rfl
@[go_sem] theorem knT24 : knT Tryd.prog 24 = true := by kernel_rfl
@[go_sem] theorem zeroT24 : zeroT Tryd.prog 24 = some (.int .i64 0) := by kernel_rfl
@[go_sem] theorem bytesT24 : bytesT Tryd.prog 24 = some 8 := by kernel_rfl
@[go_sem] theorem szT33 : szT Tryd.prog 33 = some 1 := by kernel_rfl
@[go_sem] theorem aggT33 : aggT Tryd.prog 33 = some false := by kernel_rfl
@[go_sem] theorem boolT33 : boolT Tryd.prog 33 = false := by kernel_rfl
@[go_sem] theorem slT33 : slT Tryd.prog 33 = some (22, 1) := by kernel_rfl
@[go_sem] theorem zeroT33 : zeroT Tryd.prog 33 = some (.slice none 0 0) := by kernel_rfl
@[go_sem] theorem bytesT33 : bytesT Tryd.prog 33 = some 24 := by kernel_rfl
@[go_sem] theorem szT44 : szT Tryd.prog 44 = some 1 := by kernel_rfl
@[go_sem] theorem aggT44 : aggT Tryd.prog 44 = some false := by kernel_rfl
@[go_sem] theorem boolT44 : boolT Tryd.prog 44 = false := by kernel_rfl
@[go_sem] theorem kT44 : kT Tryd.prog 44 = some .u16 := by kernel_rfl
@[go_sem] theorem knT44 : knT Tryd.prog 44 = true := by kernel_rfl
@[go_sem] theorem zeroT44 : zeroT Tryd.prog 44 = some (.int .u16 0) := by kernel_rfl
@[go_sem] theorem bytesT44 : bytesT Tryd.prog 44 = some 2 := by kernel_rfl
@[go_sem] theorem szT45 : szT Tryd.prog 45 = some 12 := by kernel_rfl
@[go_sem] theorem aggT45 : aggT Tryd.prog 45 = some true := by kernel_rfl
@[go_sem] theorem boolT45 : boolT Tryd.prog 45 = false := by kernel_rfl
@[go_sem] theorem arT45 : arT Tryd.prog 45 = some (12, 44, 1) := by kernel_rfl
@[go_sem] theorem zeroT45 : zeroT Tryd.prog 45 = some (.agg #[.int .u16 0, .int .u16 0, .int .u16 0, .int .u16 0, .int .u16 0, .int .u16 0, .int .u16 0, .int .u16 0, .int .u16 0, .int .u16 0, .int .u16 0, .int .u16 0]) := by kernel_rfl
@[go_sem] theorem bytesT45 : bytesT Tryd.prog 45 = some 24 := by kernel_rfl
@[go_sem] theorem bldT45 : bldT Tryd.prog 45 = some ([.int .u16 0, .int .u16 0, .int .u16 0, .int .u16 0, .int .u16 0, .int .u16 0, .int .u16 0, .int .u16 0, .int .u16 0, .int .u16 0, .int .u16 0, .int .u16 0], fun i => some (i * 1, 1)) := by kernel_rfl
@[go_sem] theorem szT47 : szT Tryd.prog 47 = some 13 := by kernel_rfl
@[go_sem] theorem aggT47 : aggT Tryd.prog 47 = some true := by kernel_rfl
@[go_sem] theorem boolT47 : boolT Tryd.prog 47 = false := by kernel_rfl
@[go_sem] theorem fofT47_0 : fofT Tryd.prog 47 0 = some (0, 5, 1) := by kernel_rfl
@[go_sem] theorem fofT47_1 : fofT Tryd.prog 47 1 = some (1, 45, 12) := by kernel_rfl
@[go_sem] theorem zeroT47 : zeroT Tryd.prog 47 = some (.agg #[.int .u8 0, .int .u16 0, .int .u16 0, .int .u16 0, .int .u16 0, .int .u16 0, .int .u16 0, .int .u16 0, .int .u16 0, .int .u16 0, .int .u16 0, .int .u16 0, .int .u16 0]) := by kernel_rfl
@[go_sem] theorem bytesT47 : bytesT Tryd.prog 47 = some 26 := by kernel_rfl
@[go_sem] theorem bldT47 : bldT Tryd.prog 47 = some ([.int .u8 0, .int .u16 0, .int .u16 0, .int .u16 0, .int .u16 0, .int .u16 0, .int .u16 0, .int .u16 0, .int .u16 0, .int .u16 0, .int .u16 0, .int .u16 0, .int .u16 0], fun i => ([(0, 1), (1, 12)] : List (Nat × Nat))[i]?) := by kernel_rfl
@[go_sem] theorem szT50 : szT Tryd.prog 50 = some 1 := by kernel_rfl
@[go_sem] theorem aggT50 : aggT Tryd.prog 50 = some false := by kernel_rfl
@[go_sem] theorem boolT50 : boolT Tryd.prog 50 = false := by kernel_rfl
@[go_sem] theorem zeroT50 : zeroT Tryd.prog 50 = some (.nilFunc) := by kernel_rfl
@[go_sem] theorem bytesT50 : bytesT Tryd.prog 50 = some 8 := by kernel_rfl
@[go_sem] theorem szT51 : szT Tryd.prog 51 = some 6 := by kernel_rfl
@[go_sem] theorem aggT51 : aggT Tryd.prog 51 = some true := by kernel_rfl
@[go_sem] theorem boolT51 : boolT Tryd.prog 51 = false := by kernel_rfl
@[go_sem] theorem arT51 : arT Tryd.prog 51 = some (6, 4, 1) := by kernel_rfl
@[go_sem] theorem zeroT51 : zeroT Tryd.prog 51 = some (.agg #[.bool false, .bool false, .bool false, .bool false, .bool false, .bool false]) := by kernel_rfl
@[go_sem] theorem bytesT51 : bytesT Tryd.prog 51 = some 6 := by kernel_rfl
@[go_sem] theorem bldT51 : bldT Tryd.prog 51 = some ([.bool false, .bool false, .bool false, .bool false, .bool false, .bool false], fun i => some (i * 1, 1)) := by kernel_rfl
@[go_sem] theorem szT53 : szT Tryd.prog 53 = some 1 := by kernel_rfl
@[go_sem] theorem aggT53 : aggT Tryd.prog 53 = some false := by kernel_rfl
@[go_sem] theorem boolT53 : boolT Tryd.prog 53 = false := by kernel_rfl
@[go_sem] theorem kT53 : kT Tryd.prog 53 = some .u64 := by kernel_rfl
@[go_sem] theorem knT53 : knT Tryd.prog 53 = true := by kernel_rfl
@[go_sem] theorem zeroT53 : zeroT Tryd.prog 53 = some (.int .u64 0) := by kernel_rfl
@[go_sem] theorem bytesT53 : bytesT Tryd.prog 53 = some 8 := by kernel_rfl
@[go_sem] theorem szT59 : szT Tryd.prog 59 = some 6 := by kernel_rfl
@[go_sem] theorem aggT59 : aggT Tryd.prog 59 = some true := by kernel_rfl
@[go_sem] theorem boolT59 : boolT Tryd.prog 59 = false := by kernel_rfl
@[go_sem] theorem arT59 : arT Tryd.prog 59 = some (6, 5, 1) := by kernel_rfl
@[go_sem] theorem zeroT59 : zeroT Tryd.prog 59 = some (.agg #[.int .u8 0, .int .u8 0, .int .u8 0, .int .u8 0, .int .u8 0, .int .u8 0]) := by kernel_rfl
@[go_sem] theorem bytesT59 : bytesT Tryd.prog 59 = some 6 := by kernel_rfl
@[go_sem] theorem bldT59 : bldT Tryd.prog 59 = some ([.int .u8 0, .int .u8 0, .int .u8 0, .int .u8 0, .int .u8 0, .int .u8 0], fun i => some (i * 1, 1)) := by kernel_rfl
@[go_sem] theorem szT60 : szT Tryd.prog 60 = some 1 := by kernel_rfl
@[go_sem] theorem aggT60 : aggT Tryd.prog 60 = some false := by kernel_rfl
@[go_sem] theorem boolT60 : boolT Tryd.prog 60 = false := by kernel_rfl
@[go_sem] theorem slT60 : slT Tryd.prog 60 = some (5, 1) := by kernel_rfl
@[go_sem] theorem zeroT60 : zeroT Tryd.prog 60 = some (.slice none 0 0) := by kernel_rfl
@[go_sem] theorem bytesT60 : bytesT Tryd.prog 60 = some 24 := by kernel_rfl
@[go_sem] theorem szT63 : szT Tryd.prog 63 = some 12 := by kernel_rfl
@[go_sem] theorem aggT63 : aggT Tryd.prog 63 = some true := by kernel_rfl
@[go_sem] theorem boolT63 : boolT Tryd.prog 63 = false := by kernel_rfl
@[go_sem] theorem arT63 : arT Tryd.prog 63 = some (12, 5, 1) := by kernel_rfl
@[go_sem] theorem zeroT63 : zeroT Tryd.prog 63 = some (.agg #[.int .u8 0, .int .u8 0, .int .u8 0, .int .u8 0, .int .u8 0, .int .u8 0, .int .u8 0, .int .u8 0, .int .u8 0, .int .u8 0, .int .u8 0, .int .u8 0]) := by kernel_rfl
@[go_sem] theorem bytesT63 : bytesT Tryd.prog 63 = some 12 := by kernel_rfl
@[go_sem] theorem bldT63 : bldT Tryd.prog 63 = some ([.int .u8 0, .int .u8 0, .int .u8 0, .int .u8 0, .int .u8 0, .int .u8 0, .int .u8 0, .int .u8 0, .int .u8 0, .int .u8 0, .int .u8 0, .int .u8 0], fun i => some (i * 1, 1)) := by kernel_rfl
@[go_sem] theorem szT68 : szT Tryd.prog 68 = some 1 := by kernel_rfl
@[go_sem] theorem aggT68 : aggT Tryd.prog 68 = some false := by kernel_rfl
@[go_sem] theorem boolT68 : boolT Tryd.prog 68 = false := by kernel_rfl
@[go_sem] theorem zeroT68 : zeroT Tryd.prog 68 = some (.nilFunc) := by kernel_rfl
@[go_sem] theorem bytesT68 : bytesT Tryd.prog 68 = some 8 := by kernel_rfl
@[go_sem] theorem szT70 : szT Tryd.prog 70 = some 1 := by kernel_rfl
@[go_sem] theorem aggT70 : aggT Tryd.prog 70 = some false := by kernel_rfl
@[go_sem] theorem boolT70 : boolT Tryd.prog 70 = false := by kernel_rfl
@[go_sem] theorem zeroT70 : zeroT Tryd.prog 70 = some (.nilFunc) := by kernel_rfl
@[go_sem] theorem bytesT70 : bytesT Tryd.prog 70 = some 8 := by kernel_rfl
@[go_sem] theorem szT71 : szT Tryd.prog 71 = some 1 := by kernel_rfl
@[go_sem] theorem aggT71 : aggT Tryd.prog 71 = some false := by kernel_rfl
@[go_sem] theorem boolT71 : boolT Tryd.prog 71 = false := by kernel_rfl
@[go_sem] theorem slT71 : slT Tryd.prog 71 = some (53, 1) := by kernel_rfl
@[go_sem] theorem zeroT71 : zeroT Tryd.prog 71 = some (.slice none 0 0) := by kernel_rfl
@[go_sem] theorem bytesT71 : bytesT Tryd.prog 71 = some 24 := by kernel_rfl
@[go_sem] theorem szT86 : szT Tryd.prog 86 = some 1 := by kernel_rfl
@[go_sem] theorem aggT86 : aggT Tryd.prog 86 = some false := by kernel_rfl
@[go_sem] theorem boolT86 : boolT Tryd.prog 86 = false := by kernel_rfl
@[go_sem] theorem slT86 : slT Tryd.prog 86 = some (44, 1) := by kernel_rfl
@[go_sem] theorem zeroT86 : zeroT Tryd.prog 86 = some (.slice none 0 0) := by kernel_rfl
@[go_sem] theorem bytesT86 : bytesT Tryd.prog 86 = some 24 := by kernel_rfl
@[go_sem] theorem szT91 : szT Tryd.prog 91 = some 1 := by kernel_rfl
@[go_sem] theorem aggT91 : aggT Tryd.prog 91 = some false := by kernel_rfl
@[go_sem] theorem boolT91 : boolT Tryd.prog 91 = false := by kernel_rfl
@[go_sem] theorem zeroT91 : zeroT Tryd.prog 91 = some (.nilFunc) := by kernel_rfl
@[go_sem] theorem bytesT91 : bytesT Tryd.prog 91 = some 8 := by kernel_rfl
@[go_sem] theorem szT93 : szT Tryd.prog 93 = some 1 := by kernel_rfl
@[go_sem] theorem aggT93 : aggT Tryd.prog 93 = some false := by kernel_rfl
@[go_sem] theorem boolT93 : boolT Tryd.prog 93 = false := by kernel_rfl
@[go_sem] theorem kT93 : kT Tryd.prog 93 = some .u32 := by kernel_rfl
@[go_sem] theorem knT93 : knT Tryd.prog 93 = true := by kernel_rfl
@[go_sem] theorem zeroT93 : zeroT Tryd.prog 93 = some (.int .u32 0) := by kernel_rfl
@[go_sem] theorem bytesT93 : bytesT Tryd.prog 93 = some 4 := by kernel_rfl
@[go_sem] theorem szT95 : szT Tryd.prog 95 = some 1 := by kernel_rfl
@[go_sem] theorem aggT95 : aggT Tryd.prog 95 = some false := by kernel_rfl
@[go_sem] theorem boolT95 : boolT Tryd.prog 95 = false := by kernel_rfl
@[go_sem] theorem kT95 : kT Tryd.prog 95 = some .u64 := by kernel_rfl
@[go_sem] theorem knT95 : knT Tryd.prog 95 = true := by kernel_rfl
@[go_sem] theorem zeroT95 : zeroT Tryd.prog 95 = some (.int .u64 0) := by kernel_rfl
@[go_sem] theorem bytesT95 : bytesT Tryd.prog 95 = some 8 := by kernel_rfl
@[go_sem] theorem szT97 : szT Tryd.prog 97 = some 1 := by kernel_rfl
@[go_sem] theorem aggT97 : aggT Tryd.prog 97 = some false := by kernel_rfl
@[go_sem] theorem boolT97 : boolT Tryd.prog 97 = false := by kernel_rfl
@[go_sem] theorem slT97 : slT Tryd.prog 97 = some (4, 1) := by kernel_rfl
@[go_sem] theorem zeroT97 : zeroT Tryd.prog 97 = some (.slice none 0 0) := by kernel_rfl
@[go_sem] theorem bytesT97 : bytesT Tryd.prog 97 = some 24 := by kernel_rfl
@[go_sem] theorem szT117 : szT Tryd.prog 117 = some 32 := by kernel_rfl
@[go_sem] theorem aggT117 : aggT Tryd.prog 117 = some true := by kernel_rfl
@[go_sem] theorem boolT117 : boolT Tryd.prog 117 = false := by kernel_rfl
@[go_sem] theorem arT117 : arT Tryd.prog 117 = some (32, 5, 1) := by kernel_rfl
@[go_sem] theorem zeroT117 : zeroT Tryd.prog 117 = some (.agg (List.replicate 32 (.int .u8 0)).toArray) := by kernel_rfl
@[go_sem] theorem bytesT117 : bytesT Tryd.prog 117 = some 32 := by kernel_rfl
@[go_sem] theorem szT118 : szT Tryd.prog 118 = some 64 := by kernel_rfl
@[go_sem] theorem aggT118 : aggT Tryd.prog 118 = some true := by kernel_rfl
@[go_sem] theorem boolT118 : boolT Tryd.prog 118 = false := by kernel_rfl
@[go_sem] theorem arT118 : arT Tryd.prog 118 = some (64, 5, 1) := by kernel_rfl
@[go_sem] theorem zeroT118 : zeroT Tryd.prog 118 = some (.agg (List.replicate 64 (.int .u8 0)).toArray) := by kernel_rfl
@[go_sem] theorem bytesT118 : bytesT Tryd.prog 118 = some 64 := by kernel_rfl
attribute [go_sem] beq_self_eq_true Option.all_some Option.all_none Option.some_beq_some Bool.and_self List.size_toArray cond_true cond_false beq_true beq_false bne_self_eq_false List.append_eq
attribute [go_sem] Tryd.results3 Tryd.results4 Tryd.results5 Tryd.results6 Tryd.results7 Tryd.results8 Tryd.results9 Tryd.results10 Tryd.results11 Tryd.results12 Tryd.results13 Tryd.results14 Tryd.results15 Tryd.results16 Tryd.results17 Tryd.results18 Tryd.results19 Tryd.results20 Tryd.results21 Tryd.results22 Tryd.results23 Tryd.results24 Tryd.results25 Tryd.results26 Tryd.results27 Tryd.results28 Tryd.results29 Tryd.results30 Tryd.results31 Tryd.results32 Tryd.results33 Tryd.results34 Tryd.results35 Tryd.results36 Tryd.results37 Tryd.results38 Tryd.results39 Tryd.results40 Tryd.results41 Tryd.results42 Tryd.results43 Tryd.results44 Tryd.results45 Tryd.results46 Tryd.results47 Tryd.results48 Tryd.results49 Tryd.results50 Tryd.results51 Tryd.results52 Tryd.results53 Tryd.results54 Tryd.results55 Tryd.results56 Tryd.results57 Tryd.results58 Tryd.results59 Tryd.results60 Tryd.results61 Tryd.results62 Tryd.results63 Tryd.results64 Tryd.results65 Tryd.results66 Tryd.results67 Tryd.results68 Tryd.results69 Tryd.results70 Tryd.results71 Tryd.results72 Tryd.results73 Tryd.results74 Tryd.results75 Tryd.results76 Tryd.results77 Tryd.results78 Tryd.results80 Tryd.results81 Tryd.results82 Tryd.results83 Tryd.results84 Tryd.results85 Tryd.results86 Tryd.results87 Tryd.results88 Tryd.results89 Tryd.results90 Tryd.results91 Tryd.results92 Tryd.results93 Tryd.results94 Tryd.results95 Tryd.results96 Tryd.results97 Tryd.results104 Tryd.results108 Tryd.results110 Tryd.results111 Tryd.results112 Tryd.results159 Tryd.results160 Tryd.results161 Tryd.results162
end Go.V
