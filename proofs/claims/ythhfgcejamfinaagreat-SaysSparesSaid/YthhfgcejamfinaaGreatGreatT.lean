/-
  Facts of types. Conditions: none.
-/
import Derived.Test.YthhfgcejamfinaaGreatVCalls
import Derived.KernelRfl
import Derived.Test.YthhfgcejamfinaaGreatProg
set_option linter.unusedVariables false
set_option linter.unusedSimpArgs false
set_option linter.deprecated false
namespace Go.V
open Go.Proofs
set_option linter.unusedVariables false

theorem mixed : Tryz.prog.follows .mixedOrders = true := by kernel_rfl
@[go_sem] theorem szT3 : szT Tryz.prog 3 = some 1 := by kernel_rfl
@[go_sem] theorem aggT3 : aggT Tryz.prog 3 = some false := by kernel_rfl
@[go_sem] theorem boolT3 : boolT Tryz.prog 3 = false := by kernel_rfl
@[go_sem] theorem kT3 : kT Tryz.prog 3 = some .i64 := by kernel_rfl
@[go_sem] theorem knT3 : knT Tryz.prog 3 = true := by kernel_rfl
@[go_sem] theorem zeroT3 : zeroT Tryz.prog 3 = some (.int .i64 0) := by kernel_rfl
@[go_sem] theorem bytesT3 : bytesT Tryz.prog 3 = some 8 := by kernel_rfl
@[go_sem] theorem szT4 : szT Tryz.prog 4 = some 1 := by kernel_rfl
@[go_sem] theorem aggT4 : aggT Tryz.prog 4 = some false := by kernel_rfl
@[go_sem] theorem boolT4 : boolT Tryz.prog 4 = true := by kernel_rfl
@[go_sem] theorem zeroT4 : zeroT Tryz.prog 4 = some (.bool false) := by kernel_rfl
@[go_sem] theorem bytesT4 : bytesT Tryz.prog 4 = some 1 := by kernel_rfl
@[go_sem] theorem szT5 : szT Tryz.prog 5 = some 1 := by kernel_rfl
@[go_sem] theorem aggT5 : aggT Tryz.prog 5 = some false := by kernel_rfl
@[go_sem] theorem boolT5 : boolT Tryz.prog 5 = false := by kernel_rfl
@[go_sem] theorem kT5 : kT Tryz.prog 5 = some .u8 := by kernel_rfl
@[go_sem] theorem knT5 : knT Tryz.prog 5 = true := by kernel_rfl
@[go_sem] theorem zeroT5 : zeroT Tryz.prog 5 = some (.int .u8 0) := by kernel_rfl
@[go_sem] theorem bytesT5 : bytesT Tryz.prog 5 = some 1 := by kernel_rfl
@[go_sem] theorem szT9 : szT Tryz.prog 9 = some 1 := by kernel_rfl
@[go_sem] theorem aggT9 : aggT Tryz.prog 9 = some false := by kernel_rfl
@[go_sem] theorem boolT9 : boolT Tryz.prog 9 = false := by kernel_rfl
@[go_sem] theorem strT9 : Tryz.prog.underlying 9 = some .string := by kernel_rfl
@[go_sem] theorem bytesT9 : bytesT Tryz.prog 9 = some 16 := by kernel_rfl
@[go_sem] theorem szT22 : szT Tryz.prog 22 = some 1 := by kernel_rfl
@[go_sem] theorem aggT22 : aggT Tryz.prog 22 = some false := by kernel_rfl
@[go_sem] theorem boolT22 : boolT Tryz.prog 22 = false := by kernel_rfl
@[go_sem] theorem slT22 : slT Tryz.prog 22 = some (42, 2) := by kernel_rfl
@[go_sem] theorem zeroT22 : zeroT Tryz.prog 22 = some (.slice none 0 0) := by kernel_rfl
@[go_sem] theorem bytesT22 : bytesT Tryz.prog 22 = some 24 := by kernel_rfl
@[go_sem] theorem szT24 : szT Tryz.prog 24 = some 2 := by kernel_rfl
@[go_sem] theorem aggT24 : aggT Tryz.prog 24 = some true := by kernel_rfl
@[go_sem] theorem boolT24 : boolT Tryz.prog 24 = false := by kernel_rfl
@[go_sem] theorem fofT24_0 : fofT Tryz.prog 24 0 = some (0, 3, 1) := by kernel_rfl
@[go_sem] theorem fofT24_1 : fofT Tryz.prog 24 1 = some (1, 22, 1) := by kernel_rfl
@[go_sem] theorem zeroT24 : zeroT Tryz.prog 24 = some (.agg #[.int .i64 0, .slice none 0 0]) := by kernel_rfl
@[go_sem] theorem bytesT24 : bytesT Tryz.prog 24 = some 32 := by kernel_rfl
@[go_sem] theorem bldT24 : bldT Tryz.prog 24 = some ([.int .i64 0, .slice none 0 0], fun i => ([(0, 1), (1, 1)] : List (Nat × Nat))[i]?) := by kernel_rfl
@[go_sem] theorem szT25 : szT Tryz.prog 25 = some 1 := by kernel_rfl
@[go_sem] theorem aggT25 : aggT Tryz.prog 25 = some false := by kernel_rfl
@[go_sem] theorem boolT25 : boolT Tryz.prog 25 = false := by kernel_rfl
@[go_sem] theorem slT25 : slT Tryz.prog 25 = some (3, 1) := by kernel_rfl
@[go_sem] theorem zeroT25 : zeroT Tryz.prog 25 = some (.slice none 0 0) := by kernel_rfl
@[go_sem] theorem bytesT25 : bytesT Tryz.prog 25 = some 24 := by kernel_rfl
@[go_sem] theorem szT28 : szT Tryz.prog 28 = some 1 := by kernel_rfl
@[go_sem] theorem aggT28 : aggT Tryz.prog 28 = some false := by kernel_rfl
@[go_sem] theorem boolT28 : boolT Tryz.prog 28 = false := by kernel_rfl
@[go_sem] theorem slT28 : slT Tryz.prog 28 = some (43, 2) := by kernel_rfl
@[go_sem] theorem zeroT28 : zeroT Tryz.prog 28 = some (.slice none 0 0) := by kernel_rfl
@[go_sem] theorem bytesT28 : bytesT Tryz.prog 28 = some 24 := by kernel_rfl
@[go_sem] theorem szT30 : szT Tryz.prog 30 = some 2 := by kernel_rfl
@[go_sem] theorem aggT30 : aggT Tryz.prog 30 = some true := by kernel_rfl
@[go_sem] theorem boolT30 : boolT Tryz.prog 30 = false := by kernel_rfl
@[go_sem] theorem fofT30_0 : fofT Tryz.prog 30 0 = some (0, 3, 1) := by kernel_rfl
@[go_sem] theorem fofT30_1 : fofT Tryz.prog 30 1 = some (1, 28, 1) := by kernel_rfl
@[go_sem] theorem zeroT30 : zeroT Tryz.prog 30 = some (.agg #[.int .i64 0, .slice none 0 0]) := by kernel_rfl
@[go_sem] theorem bytesT30 : bytesT Tryz.prog 30 = some 32 := by kernel_rfl
@[go_sem] theorem bldT30 : bldT Tryz.prog 30 = some ([.int .i64 0, .slice none 0 0], fun i => ([(0, 1), (1, 1)] : List (Nat × Nat))[i]?) := by kernel_rfl
@[go_sem] theorem szT32 : szT Tryz.prog 32 = some 1 := by kernel_rfl
@[go_sem] theorem aggT32 : aggT Tryz.prog 32 = some false := by kernel_rfl
@[go_sem] theorem boolT32 : boolT Tryz.prog 32 = false := by kernel_rfl
@[go_sem] theorem kT32 : kT Tryz.prog 32 = some .i64 := by kernel_rfl
@[go_sem] theorem knT32 : knT Tryz.prog 32 = true := by kernel_rfl
@[go_sem] theorem zeroT32 : zeroT Tryz.prog 32 = some (.int .i64 0) := by kernel_rfl
@[go_sem] theorem bytesT32 : bytesT Tryz.prog 32 = some 8 := by kernel_rfl
@[go_sem] theorem szT42 : szT Tryz.prog 42 = some 2 := by kernel_rfl
@[go_sem] theorem aggT42 : aggT Tryz.prog 42 = some true := by kernel_rfl
@[go_sem] theorem boolT42 : boolT Tryz.prog 42 = false := by kernel_rfl
@[go_sem] theorem fofT42_0 : fofT Tryz.prog 42 0 = some (0, 25, 1) := by kernel_rfl
@[go_sem] theorem fofT42_1 : fofT Tryz.prog 42 1 = some (1, 25, 1) := by kernel_rfl
@[go_sem] theorem zeroT42 : zeroT Tryz.prog 42 = some (.agg #[.slice none 0 0, .slice none 0 0]) := by kernel_rfl
@[go_sem] theorem bytesT42 : bytesT Tryz.prog 42 = some 48 := by kernel_rfl
@[go_sem] theorem bldT42 : bldT Tryz.prog 42 = some ([.slice none 0 0, .slice none 0 0], fun i => ([(0, 1), (1, 1)] : List (Nat × Nat))[i]?) := by kernel_rfl
@[go_sem] theorem szT43 : szT Tryz.prog 43 = some 2 := by kernel_rfl
@[go_sem] theorem aggT43 : aggT Tryz.prog 43 = some true := by kernel_rfl
@[go_sem] theorem boolT43 : boolT Tryz.prog 43 = false := by kernel_rfl
@[go_sem] theorem fofT43_0 : fofT Tryz.prog 43 0 = some (0, 25, 1) := by kernel_rfl
@[go_sem] theorem fofT43_1 : fofT Tryz.prog 43 1 = some (1, 25, 1) := by kernel_rfl
@[go_sem] theorem zeroT43 : zeroT Tryz.prog 43 = some (.agg #[.slice none 0 0, .slice none 0 0]) := by kernel_rfl
@[go_sem] theorem bytesT43 : bytesT Tryz.prog 43 = some 48 := by kernel_rfl
@[go_sem] theorem bldT43 : bldT Tryz.prog 43 = some ([.slice none 0 0, .slice none 0 0], fun i => ([(0, 1), (1, 1)] : List (Nat × Nat))[i]?) := by kernel_rfl
@[go_sem] theorem szT53 : szT Tryz.prog 53 = some 1 := by kernel_rfl
@[go_sem] theorem aggT53 : aggT Tryz.prog 53 = some false := by kernel_rfl
@[go_sem] theorem boolT53 : boolT Tryz.prog 53 = false := by kernel_rfl
@[go_sem] theorem slT53 : slT Tryz.prog 53 = some (25, 1) := by kernel_rfl
@[go_sem] theorem zeroT53 : zeroT Tryz.prog 53 = some (.slice none 0 0) := by kernel_rfl
@[go_sem] theorem bytesT53 : bytesT Tryz.prog 53 = some 24 := by kernel_rfl
@[go_sem] theorem szT67 : szT Tryz.prog 67 = some 1 := by kernel_rfl
@[go_sem] theorem aggT67 : aggT Tryz.prog 67 = some false := by kernel_rfl
@[go_sem] theorem boolT67 : boolT Tryz.prog 67 = false := by kernel_rfl
@[go_sem] theorem kT67 : kT Tryz.prog 67 = some .u8 := by kernel_rfl
@[go_sem] theorem knT67 : knT Tryz.prog 67 = true := by kernel_rfl
@[go_sem] theorem zeroT67 : zeroT Tryz.prog 67 = some (.int .u8 0) := by kernel_rfl
@[go_sem] theorem bytesT67 : bytesT Tryz.prog 67 = some 1 := by kernel_rfl
@[go_sem] theorem szT68 : szT Tryz.prog 68 = some 1 := by kernel_rfl
@[go_sem] theorem aggT68 : aggT Tryz.prog 68 = some false := by kernel_rfl
@[go_sem] theorem boolT68 : boolT Tryz.prog 68 = false := by kernel_rfl
@[go_sem] theorem slT68 : slT Tryz.prog 68 = some (92, 3) := by kernel_rfl
@[go_sem] theorem zeroT68 : zeroT Tryz.prog 68 = some (.slice none 0 0) := by kernel_rfl
@[go_sem] theorem bytesT68 : bytesT Tryz.prog 68 = some 24 := by kernel_rfl
@[go_sem] theorem szT70 : szT Tryz.prog 70 = some 2 := by kernel_rfl
@[go_sem] theorem aggT70 : aggT Tryz.prog 70 = some true := by kernel_rfl
@[go_sem] theorem boolT70 : boolT Tryz.prog 70 = false := by kernel_rfl
@[go_sem] theorem fofT70_0 : fofT Tryz.prog 70 0 = some (0, 67, 1) := by kernel_rfl
@[go_sem] theorem fofT70_1 : fofT Tryz.prog 70 1 = some (1, 68, 1) := by kernel_rfl
@[go_sem] theorem zeroT70 : zeroT Tryz.prog 70 = some (.agg #[.int .u8 0, .slice none 0 0]) := by kernel_rfl
@[go_sem] theorem bytesT70 : bytesT Tryz.prog 70 = some 32 := by kernel_rfl
@[go_sem] theorem bldT70 : bldT Tryz.prog 70 = some ([.int .u8 0, .slice none 0 0], fun i => ([(0, 1), (1, 1)] : List (Nat × Nat))[i]?) := by kernel_rfl
@[go_sem] theorem szT74 : szT Tryz.prog 74 = some 1 := by kernel_rfl
@[go_sem] theorem aggT74 : aggT Tryz.prog 74 = some false := by kernel_rfl
@[go_sem] theorem boolT74 : boolT Tryz.prog 74 = false := by kernel_rfl
@[go_sem] theorem slT74 : slT Tryz.prog 74 = some (76, 2) := by kernel_rfl
@[go_sem] theorem zeroT74 : zeroT Tryz.prog 74 = some (.slice none 0 0) := by kernel_rfl
@[go_sem] theorem bytesT74 : bytesT Tryz.prog 74 = some 24 := by kernel_rfl
@[go_sem] theorem szT76 : szT Tryz.prog 76 = some 2 := by kernel_rfl
@[go_sem] theorem aggT76 : aggT Tryz.prog 76 = some true := by kernel_rfl
@[go_sem] theorem boolT76 : boolT Tryz.prog 76 = false := by kernel_rfl
@[go_sem] theorem fofT76_0 : fofT Tryz.prog 76 0 = some (0, 67, 1) := by kernel_rfl
@[go_sem] theorem fofT76_1 : fofT Tryz.prog 76 1 = some (1, 67, 1) := by kernel_rfl
@[go_sem] theorem zeroT76 : zeroT Tryz.prog 76 = some (.agg #[.int .u8 0, .int .u8 0]) := by kernel_rfl
@[go_sem] theorem bytesT76 : bytesT Tryz.prog 76 = some 2 := by kernel_rfl
@[go_sem] theorem bldT76 : bldT Tryz.prog 76 = some ([.int .u8 0, .int .u8 0], fun i => ([(0, 1), (1, 1)] : List (Nat × Nat))[i]?) := by kernel_rfl
@[go_sem] theorem eqA76 (x0 y0 : Int) (x1 y1 : Int) : eqA Tryz.prog 76 [.val (.int .u8 x0), .val (.int .u8 x1)] [.val (.int .u8 y0), .val (.int .u8 y1)] = some (x0 == y0 && (x1 == y1 && true)) := by kernel_rfl
@[go_sem] theorem szT92 : szT Tryz.prog 92 = some 3 := by kernel_rfl
@[go_sem] theorem aggT92 : aggT Tryz.prog 92 = some true := by kernel_rfl
@[go_sem] theorem boolT92 : boolT Tryz.prog 92 = false := by kernel_rfl
@[go_sem] theorem fofT92_0 : fofT Tryz.prog 92 0 = some (0, 76, 2) := by kernel_rfl
@[go_sem] theorem fofT92_1 : fofT Tryz.prog 92 1 = some (2, 3, 1) := by kernel_rfl
@[go_sem] theorem zeroT92 : zeroT Tryz.prog 92 = some (.agg #[.int .u8 0, .int .u8 0, .int .i64 0]) := by kernel_rfl
@[go_sem] theorem bytesT92 : bytesT Tryz.prog 92 = some 16 := by kernel_rfl
@[go_sem] theorem bldT92 : bldT Tryz.prog 92 = some ([.int .u8 0, .int .u8 0, .int .i64 0], fun i => ([(0, 2), (2, 1)] : List (Nat × Nat))[i]?) := by kernel_rfl
@[go_sem] theorem szT95 : szT Tryz.prog 95 = some 1 := by kernel_rfl
@[go_sem] theorem aggT95 : aggT Tryz.prog 95 = some false := by kernel_rfl
@[go_sem] theorem boolT95 : boolT Tryz.prog 95 = false := by kernel_rfl
@[go_sem] theorem slT95 : slT Tryz.prog 95 = some (67, 1) := by kernel_rfl
@[go_sem] theorem zeroT95 : zeroT Tryz.prog 95 = some (.slice none 0 0) := by kernel_rfl
@[go_sem] theorem bytesT95 : bytesT Tryz.prog 95 = some 24 := by kernel_rfl
@[go_sem] theorem szT108 : szT Tryz.prog 108 = some 2 := by kernel_rfl
@[go_sem] theorem aggT108 : aggT Tryz.prog 108 = some true := by kernel_rfl
@[go_sem] theorem boolT108 : boolT Tryz.prog 108 = false := by kernel_rfl
@[go_sem] theorem fofT108_0 : fofT Tryz.prog 108 0 = some (0, 67, 1) := by kernel_rfl
@[go_sem] theorem fofT108_1 : fofT Tryz.prog 108 1 = some (1, 25, 1) := by kernel_rfl
@[go_sem] theorem zeroT108 : zeroT Tryz.prog 108 = some (.agg #[.int .u8 0, .slice none 0 0]) := by kernel_rfl
@[go_sem] theorem bytesT108 : bytesT Tryz.prog 108 = some 32 := by kernel_rfl
@[go_sem] theorem bldT108 : bldT Tryz.prog 108 = some ([.int .u8 0, .slice none 0 0], fun i => ([(0, 1), (1, 1)] : List (Nat × Nat))[i]?) := by kernel_rfl
@[go_sem] theorem szT109 : szT Tryz.prog 109 = some 1 := by kernel_rfl
@[go_sem] theorem aggT109 : aggT Tryz.prog 109 = some false := by kernel_rfl
@[go_sem] theorem boolT109 : boolT Tryz.prog 109 = false := by kernel_rfl
@[go_sem] theorem slT109 : slT Tryz.prog 109 = some (108, 2) := by kernel_rfl
@[go_sem] theorem zeroT109 : zeroT Tryz.prog 109 = some (.slice none 0 0) := by kernel_rfl
@[go_sem] theorem bytesT109 : bytesT Tryz.prog 109 = some 24 := by kernel_rfl
@[go_sem] theorem szT116 : szT Tryz.prog 116 = some 1 := by kernel_rfl
@[go_sem] theorem aggT116 : aggT Tryz.prog 116 = some false := by kernel_rfl
@[go_sem] theorem boolT116 : boolT Tryz.prog 116 = false := by kernel_rfl
@[go_sem] theorem kT116 : kT Tryz.prog 116 = some .u64 := by kernel_rfl
@[go_sem] theorem knT116 : knT Tryz.prog 116 = true := by kernel_rfl
@[go_sem] theorem zeroT116 : zeroT Tryz.prog 116 = some (.int .u64 0) := by kernel_rfl
@[go_sem] theorem bytesT116 : bytesT Tryz.prog 116 = some 8 := by kernel_rfl
@[go_sem] theorem szT125 : szT Tryz.prog 125 = some 1 := by kernel_rfl
@[go_sem] theorem aggT125 : aggT Tryz.prog 125 = some false := by kernel_rfl
@[go_sem] theorem boolT125 : boolT Tryz.prog 125 = false := by kernel_rfl
@[go_sem] theorem kT125 : kT Tryz.prog 125 = some .u32 := by kernel_rfl
@[go_sem] theorem knT125 : knT Tryz.prog 125 = true := by kernel_rfl
@[go_sem] theorem zeroT125 : zeroT Tryz.prog 125 = some (.int .u32 0) := by kernel_rfl
@[go_sem] theorem bytesT125 : bytesT Tryz.prog 125 = some 4 := by kernel_rfl
@[go_sem] theorem szT127 : szT Tryz.prog 127 = some 1 := by kernel_rfl
@[go_sem] theorem aggT127 : aggT Tryz.prog 127 = some false := by kernel_rfl
@[go_sem] theorem boolT127 : boolT Tryz.prog 127 = false := by kernel_rfl
@[go_sem] theorem kT127 : kT Tryz.prog 127 = some .u64 := by kernel_rfl
@[go_sem] theorem knT127 : knT Tryz.prog 127 = true := by kernel_rfl
@[go_sem] theorem zeroT127 : zeroT Tryz.prog 127 = some (.int .u64 0) := by kernel_rfl
@[go_sem] theorem bytesT127 : bytesT Tryz.prog 127 = some 8 := by kernel_rfl
attribute [go_sem] Tryz.results3 Tryz.results4 Tryz.results5 Tryz.results6 Tryz.results7 Tryz.results8 Tryz.results9 Tryz.results10 Tryz.results11 Tryz.results12 Tryz.results13 Tryz.results14 Tryz.results15 Tryz.results16 Tryz.results17 Tryz.results18 Tryz.results19 Tryz.results20 Tryz.results21 Tryz.results22 Tryz.results23 Tryz.results24 Tryz.results25 Tryz.results26 Tryz.results27 Tryz.results28 Tryz.results29 Tryz.results30 Tryz.results31 Tryz.results32 Tryz.results33 Tryz.results34 Tryz.results35 Tryz.results36 Tryz.results37 Tryz.results38 Tryz.results39 Tryz.results40 Tryz.results41 Tryz.results42 Tryz.results43 Tryz.results44 Tryz.results45 Tryz.results46 Tryz.results47 Tryz.results48 Tryz.results49 Tryz.results50 Tryz.results51 Tryz.results52 Tryz.results53 Tryz.results54 Tryz.results55 Tryz.results56 Tryz.results57 Tryz.results58 Tryz.results59 Tryz.results60 Tryz.results61 Tryz.results62 Tryz.results63 Tryz.results64 Tryz.results65 Tryz.results66 Tryz.results67 Tryz.results68 Tryz.results69 Tryz.results70 Tryz.results71 Tryz.results72 Tryz.results73 Tryz.results74 Tryz.results75 Tryz.results77 Tryz.results78 Tryz.results79 Tryz.results80 Tryz.results81 Tryz.results82 Tryz.results83 Tryz.results84 Tryz.results85 Tryz.results86 Tryz.results95 Tryz.results96 Tryz.results97
end Go.V
