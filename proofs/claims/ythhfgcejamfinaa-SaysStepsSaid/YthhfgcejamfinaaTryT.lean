/-
  Facts of types. Conditions: none.
-/
import Derived.Test.YthhfgcejamfinaaVMono
import Derived.KernelRfl
import Derived.Test.YthhfgcejamfinaaProg
set_option linter.unusedVariables false
set_option linter.unusedSimpArgs false
set_option linter.deprecated false
namespace Go.V
open Go.Proofs
set_option linter.unusedVariables false

theorem mixed : Try.prog.follows .mixedOrders = true := by kernel_rfl
@[go_sem] theorem szT3 : szT Try.prog 3 = some 1 := by kernel_rfl
@[go_sem] theorem aggT3 : aggT Try.prog 3 = some false := by kernel_rfl
@[go_sem] theorem boolT3 : boolT Try.prog 3 = false := by kernel_rfl
@[go_sem] theorem kT3 : kT Try.prog 3 = some .i64 := by kernel_rfl
@[go_sem] theorem knT3 : knT Try.prog 3 = true := by kernel_rfl
@[go_sem] theorem zeroT3 : zeroT Try.prog 3 = some (.int .i64 0) := by kernel_rfl
@[go_sem] theorem bytesT3 : bytesT Try.prog 3 = some 8 := by kernel_rfl
@[go_sem] theorem szT4 : szT Try.prog 4 = some 1 := by kernel_rfl
@[go_sem] theorem aggT4 : aggT Try.prog 4 = some false := by kernel_rfl
@[go_sem] theorem boolT4 : boolT Try.prog 4 = true := by kernel_rfl
@[go_sem] theorem zeroT4 : zeroT Try.prog 4 = some (.bool false) := by kernel_rfl
@[go_sem] theorem bytesT4 : bytesT Try.prog 4 = some 1 := by kernel_rfl
@[go_sem] theorem szT5 : szT Try.prog 5 = some 1 := by kernel_rfl
@[go_sem] theorem aggT5 : aggT Try.prog 5 = some false := by kernel_rfl
@[go_sem] theorem boolT5 : boolT Try.prog 5 = false := by kernel_rfl
@[go_sem] theorem kT5 : kT Try.prog 5 = some .u8 := by kernel_rfl
@[go_sem] theorem knT5 : knT Try.prog 5 = true := by kernel_rfl
@[go_sem] theorem zeroT5 : zeroT Try.prog 5 = some (.int .u8 0) := by kernel_rfl
@[go_sem] theorem bytesT5 : bytesT Try.prog 5 = some 1 := by kernel_rfl
@[go_sem] theorem szT9 : szT Try.prog 9 = some 1 := by kernel_rfl
@[go_sem] theorem aggT9 : aggT Try.prog 9 = some false := by kernel_rfl
@[go_sem] theorem boolT9 : boolT Try.prog 9 = false := by kernel_rfl
@[go_sem] theorem strT9 : Try.prog.underlying 9 = some .string := by kernel_rfl
@[go_sem] theorem bytesT9 : bytesT Try.prog 9 = some 16 := by kernel_rfl
@[go_sem] theorem szT22 : szT Try.prog 22 = some 1 := by kernel_rfl
@[go_sem] theorem aggT22 : aggT Try.prog 22 = some false := by kernel_rfl
@[go_sem] theorem boolT22 : boolT Try.prog 22 = false := by kernel_rfl
@[go_sem] theorem slT22 : slT Try.prog 22 = some (54, 2) := by kernel_rfl
@[go_sem] theorem zeroT22 : zeroT Try.prog 22 = some (.slice none 0 0) := by kernel_rfl
@[go_sem] theorem bytesT22 : bytesT Try.prog 22 = some 24 := by kernel_rfl
@[go_sem] theorem szT24 : szT Try.prog 24 = some 2 := by kernel_rfl
@[go_sem] theorem aggT24 : aggT Try.prog 24 = some true := by kernel_rfl
@[go_sem] theorem boolT24 : boolT Try.prog 24 = false := by kernel_rfl
@[go_sem] theorem fofT24_0 : fofT Try.prog 24 0 = some (0, 3, 1) := by kernel_rfl
@[go_sem] theorem fofT24_1 : fofT Try.prog 24 1 = some (1, 22, 1) := by kernel_rfl
@[go_sem] theorem zeroT24 : zeroT Try.prog 24 = some (.agg #[.int .i64 0, .slice none 0 0]) := by kernel_rfl
@[go_sem] theorem bytesT24 : bytesT Try.prog 24 = some 32 := by kernel_rfl
@[go_sem] theorem bldT24 : bldT Try.prog 24 = some ([.int .i64 0, .slice none 0 0], fun i => ([(0, 1), (1, 1)] : List (Nat × Nat))[i]?) := by kernel_rfl
@[go_sem] theorem szT25 : szT Try.prog 25 = some 1 := by kernel_rfl
@[go_sem] theorem aggT25 : aggT Try.prog 25 = some false := by kernel_rfl
@[go_sem] theorem boolT25 : boolT Try.prog 25 = false := by kernel_rfl
@[go_sem] theorem slT25 : slT Try.prog 25 = some (3, 1) := by kernel_rfl
@[go_sem] theorem zeroT25 : zeroT Try.prog 25 = some (.slice none 0 0) := by kernel_rfl
@[go_sem] theorem bytesT25 : bytesT Try.prog 25 = some 24 := by kernel_rfl
@[go_sem] theorem szT28 : szT Try.prog 28 = some 1 := by kernel_rfl
@[go_sem] theorem aggT28 : aggT Try.prog 28 = some false := by kernel_rfl
@[go_sem] theorem boolT28 : boolT Try.prog 28 = false := by kernel_rfl
@[go_sem] theorem slT28 : slT Try.prog 28 = some (59, 2) := by kernel_rfl
@[go_sem] theorem zeroT28 : zeroT Try.prog 28 = some (.slice none 0 0) := by kernel_rfl
@[go_sem] theorem bytesT28 : bytesT Try.prog 28 = some 24 := by kernel_rfl
@[go_sem] theorem szT30 : szT Try.prog 30 = some 2 := by kernel_rfl
@[go_sem] theorem aggT30 : aggT Try.prog 30 = some true := by kernel_rfl
@[go_sem] theorem boolT30 : boolT Try.prog 30 = false := by kernel_rfl
@[go_sem] theorem fofT30_0 : fofT Try.prog 30 0 = some (0, 3, 1) := by kernel_rfl
@[go_sem] theorem fofT30_1 : fofT Try.prog 30 1 = some (1, 28, 1) := by kernel_rfl
@[go_sem] theorem zeroT30 : zeroT Try.prog 30 = some (.agg #[.int .i64 0, .slice none 0 0]) := by kernel_rfl
@[go_sem] theorem bytesT30 : bytesT Try.prog 30 = some 32 := by kernel_rfl
@[go_sem] theorem bldT30 : bldT Try.prog 30 = some ([.int .i64 0, .slice none 0 0], fun i => ([(0, 1), (1, 1)] : List (Nat × Nat))[i]?) := by kernel_rfl
@[go_sem] theorem szT32 : szT Try.prog 32 = some 1 := by kernel_rfl
@[go_sem] theorem aggT32 : aggT Try.prog 32 = some false := by kernel_rfl
@[go_sem] theorem boolT32 : boolT Try.prog 32 = false := by kernel_rfl
@[go_sem] theorem kT32 : kT Try.prog 32 = some .i64 := by kernel_rfl
@[go_sem] theorem knT32 : knT Try.prog 32 = true := by kernel_rfl
@[go_sem] theorem zeroT32 : zeroT Try.prog 32 = some (.int .i64 0) := by kernel_rfl
@[go_sem] theorem bytesT32 : bytesT Try.prog 32 = some 8 := by kernel_rfl
@[go_sem] theorem szT43 : szT Try.prog 43 = some 1 := by kernel_rfl
@[go_sem] theorem aggT43 : aggT Try.prog 43 = some false := by kernel_rfl
@[go_sem] theorem boolT43 : boolT Try.prog 43 = false := by kernel_rfl
@[go_sem] theorem slT43 : slT Try.prog 43 = some (25, 1) := by kernel_rfl
@[go_sem] theorem zeroT43 : zeroT Try.prog 43 = some (.slice none 0 0) := by kernel_rfl
@[go_sem] theorem bytesT43 : bytesT Try.prog 43 = some 24 := by kernel_rfl
@[go_sem] theorem szT54 : szT Try.prog 54 = some 2 := by kernel_rfl
@[go_sem] theorem aggT54 : aggT Try.prog 54 = some true := by kernel_rfl
@[go_sem] theorem boolT54 : boolT Try.prog 54 = false := by kernel_rfl
@[go_sem] theorem fofT54_0 : fofT Try.prog 54 0 = some (0, 25, 1) := by kernel_rfl
@[go_sem] theorem fofT54_1 : fofT Try.prog 54 1 = some (1, 25, 1) := by kernel_rfl
@[go_sem] theorem zeroT54 : zeroT Try.prog 54 = some (.agg #[.slice none 0 0, .slice none 0 0]) := by kernel_rfl
@[go_sem] theorem bytesT54 : bytesT Try.prog 54 = some 48 := by kernel_rfl
@[go_sem] theorem bldT54 : bldT Try.prog 54 = some ([.slice none 0 0, .slice none 0 0], fun i => ([(0, 1), (1, 1)] : List (Nat × Nat))[i]?) := by kernel_rfl
@[go_sem] theorem szT59 : szT Try.prog 59 = some 2 := by kernel_rfl
@[go_sem] theorem aggT59 : aggT Try.prog 59 = some true := by kernel_rfl
@[go_sem] theorem boolT59 : boolT Try.prog 59 = false := by kernel_rfl
@[go_sem] theorem fofT59_0 : fofT Try.prog 59 0 = some (0, 25, 1) := by kernel_rfl
@[go_sem] theorem fofT59_1 : fofT Try.prog 59 1 = some (1, 25, 1) := by kernel_rfl
@[go_sem] theorem zeroT59 : zeroT Try.prog 59 = some (.agg #[.slice none 0 0, .slice none 0 0]) := by kernel_rfl
@[go_sem] theorem bytesT59 : bytesT Try.prog 59 = some 48 := by kernel_rfl
@[go_sem] theorem bldT59 : bldT Try.prog 59 = some ([.slice none 0 0, .slice none 0 0], fun i => ([(0, 1), (1, 1)] : List (Nat × Nat))[i]?) := by kernel_rfl
@[go_sem] theorem szT60 : szT Try.prog 60 = some 1 := by kernel_rfl
@[go_sem] theorem aggT60 : aggT Try.prog 60 = some false := by kernel_rfl
@[go_sem] theorem boolT60 : boolT Try.prog 60 = false := by kernel_rfl
@[go_sem] theorem kT60 : kT Try.prog 60 = some .u8 := by kernel_rfl
@[go_sem] theorem knT60 : knT Try.prog 60 = true := by kernel_rfl
@[go_sem] theorem zeroT60 : zeroT Try.prog 60 = some (.int .u8 0) := by kernel_rfl
@[go_sem] theorem bytesT60 : bytesT Try.prog 60 = some 1 := by kernel_rfl
@[go_sem] theorem szT61 : szT Try.prog 61 = some 1 := by kernel_rfl
@[go_sem] theorem aggT61 : aggT Try.prog 61 = some false := by kernel_rfl
@[go_sem] theorem boolT61 : boolT Try.prog 61 = false := by kernel_rfl
@[go_sem] theorem slT61 : slT Try.prog 61 = some (73, 3) := by kernel_rfl
@[go_sem] theorem zeroT61 : zeroT Try.prog 61 = some (.slice none 0 0) := by kernel_rfl
@[go_sem] theorem bytesT61 : bytesT Try.prog 61 = some 24 := by kernel_rfl
@[go_sem] theorem szT63 : szT Try.prog 63 = some 2 := by kernel_rfl
@[go_sem] theorem aggT63 : aggT Try.prog 63 = some true := by kernel_rfl
@[go_sem] theorem boolT63 : boolT Try.prog 63 = false := by kernel_rfl
@[go_sem] theorem fofT63_0 : fofT Try.prog 63 0 = some (0, 60, 1) := by kernel_rfl
@[go_sem] theorem fofT63_1 : fofT Try.prog 63 1 = some (1, 61, 1) := by kernel_rfl
@[go_sem] theorem zeroT63 : zeroT Try.prog 63 = some (.agg #[.int .u8 0, .slice none 0 0]) := by kernel_rfl
@[go_sem] theorem bytesT63 : bytesT Try.prog 63 = some 32 := by kernel_rfl
@[go_sem] theorem bldT63 : bldT Try.prog 63 = some ([.int .u8 0, .slice none 0 0], fun i => ([(0, 1), (1, 1)] : List (Nat × Nat))[i]?) := by kernel_rfl
@[go_sem] theorem szT67 : szT Try.prog 67 = some 2 := by kernel_rfl
@[go_sem] theorem aggT67 : aggT Try.prog 67 = some true := by kernel_rfl
@[go_sem] theorem boolT67 : boolT Try.prog 67 = false := by kernel_rfl
@[go_sem] theorem fofT67_0 : fofT Try.prog 67 0 = some (0, 60, 1) := by kernel_rfl
@[go_sem] theorem fofT67_1 : fofT Try.prog 67 1 = some (1, 25, 1) := by kernel_rfl
@[go_sem] theorem zeroT67 : zeroT Try.prog 67 = some (.agg #[.int .u8 0, .slice none 0 0]) := by kernel_rfl
@[go_sem] theorem bytesT67 : bytesT Try.prog 67 = some 32 := by kernel_rfl
@[go_sem] theorem bldT67 : bldT Try.prog 67 = some ([.int .u8 0, .slice none 0 0], fun i => ([(0, 1), (1, 1)] : List (Nat × Nat))[i]?) := by kernel_rfl
@[go_sem] theorem szT68 : szT Try.prog 68 = some 1 := by kernel_rfl
@[go_sem] theorem aggT68 : aggT Try.prog 68 = some false := by kernel_rfl
@[go_sem] theorem boolT68 : boolT Try.prog 68 = false := by kernel_rfl
@[go_sem] theorem slT68 : slT Try.prog 68 = some (67, 2) := by kernel_rfl
@[go_sem] theorem zeroT68 : zeroT Try.prog 68 = some (.slice none 0 0) := by kernel_rfl
@[go_sem] theorem bytesT68 : bytesT Try.prog 68 = some 24 := by kernel_rfl
@[go_sem] theorem szT69 : szT Try.prog 69 = some 1 := by kernel_rfl
@[go_sem] theorem aggT69 : aggT Try.prog 69 = some false := by kernel_rfl
@[go_sem] theorem boolT69 : boolT Try.prog 69 = false := by kernel_rfl
@[go_sem] theorem slT69 : slT Try.prog 69 = some (60, 1) := by kernel_rfl
@[go_sem] theorem zeroT69 : zeroT Try.prog 69 = some (.slice none 0 0) := by kernel_rfl
@[go_sem] theorem bytesT69 : bytesT Try.prog 69 = some 24 := by kernel_rfl
@[go_sem] theorem szT71 : szT Try.prog 71 = some 2 := by kernel_rfl
@[go_sem] theorem aggT71 : aggT Try.prog 71 = some true := by kernel_rfl
@[go_sem] theorem boolT71 : boolT Try.prog 71 = false := by kernel_rfl
@[go_sem] theorem fofT71_0 : fofT Try.prog 71 0 = some (0, 60, 1) := by kernel_rfl
@[go_sem] theorem fofT71_1 : fofT Try.prog 71 1 = some (1, 60, 1) := by kernel_rfl
@[go_sem] theorem zeroT71 : zeroT Try.prog 71 = some (.agg #[.int .u8 0, .int .u8 0]) := by kernel_rfl
@[go_sem] theorem bytesT71 : bytesT Try.prog 71 = some 2 := by kernel_rfl
@[go_sem] theorem bldT71 : bldT Try.prog 71 = some ([.int .u8 0, .int .u8 0], fun i => ([(0, 1), (1, 1)] : List (Nat × Nat))[i]?) := by kernel_rfl
@[go_sem] theorem eqA71 (x0 y0 : Int) (x1 y1 : Int) : eqA Try.prog 71 [.val (.int .u8 x0), .val (.int .u8 x1)] [.val (.int .u8 y0), .val (.int .u8 y1)] = some (x0 == y0 && (x1 == y1 && true)) := by kernel_rfl
@[go_sem] theorem szT73 : szT Try.prog 73 = some 3 := by kernel_rfl
@[go_sem] theorem aggT73 : aggT Try.prog 73 = some true := by kernel_rfl
@[go_sem] theorem boolT73 : boolT Try.prog 73 = false := by kernel_rfl
@[go_sem] theorem fofT73_0 : fofT Try.prog 73 0 = some (0, 71, 2) := by kernel_rfl
@[go_sem] theorem fofT73_1 : fofT Try.prog 73 1 = some (2, 3, 1) := by kernel_rfl
@[go_sem] theorem zeroT73 : zeroT Try.prog 73 = some (.agg #[.int .u8 0, .int .u8 0, .int .i64 0]) := by kernel_rfl
@[go_sem] theorem bytesT73 : bytesT Try.prog 73 = some 16 := by kernel_rfl
@[go_sem] theorem bldT73 : bldT Try.prog 73 = some ([.int .u8 0, .int .u8 0, .int .i64 0], fun i => ([(0, 2), (2, 1)] : List (Nat × Nat))[i]?) := by kernel_rfl
@[go_sem] theorem szT87 : szT Try.prog 87 = some 1 := by kernel_rfl
@[go_sem] theorem aggT87 : aggT Try.prog 87 = some false := by kernel_rfl
@[go_sem] theorem boolT87 : boolT Try.prog 87 = false := by kernel_rfl
@[go_sem] theorem slT87 : slT Try.prog 87 = some (71, 2) := by kernel_rfl
@[go_sem] theorem zeroT87 : zeroT Try.prog 87 = some (.slice none 0 0) := by kernel_rfl
@[go_sem] theorem bytesT87 : bytesT Try.prog 87 = some 24 := by kernel_rfl
@[go_sem] theorem szT107 : szT Try.prog 107 = some 1 := by kernel_rfl
@[go_sem] theorem aggT107 : aggT Try.prog 107 = some false := by kernel_rfl
@[go_sem] theorem boolT107 : boolT Try.prog 107 = false := by kernel_rfl
@[go_sem] theorem kT107 : kT Try.prog 107 = some .u64 := by kernel_rfl
@[go_sem] theorem knT107 : knT Try.prog 107 = true := by kernel_rfl
@[go_sem] theorem zeroT107 : zeroT Try.prog 107 = some (.int .u64 0) := by kernel_rfl
@[go_sem] theorem bytesT107 : bytesT Try.prog 107 = some 8 := by kernel_rfl
@[go_sem] theorem szT116 : szT Try.prog 116 = some 1 := by kernel_rfl
@[go_sem] theorem aggT116 : aggT Try.prog 116 = some false := by kernel_rfl
@[go_sem] theorem boolT116 : boolT Try.prog 116 = false := by kernel_rfl
@[go_sem] theorem kT116 : kT Try.prog 116 = some .u32 := by kernel_rfl
@[go_sem] theorem knT116 : knT Try.prog 116 = true := by kernel_rfl
@[go_sem] theorem zeroT116 : zeroT Try.prog 116 = some (.int .u32 0) := by kernel_rfl
@[go_sem] theorem bytesT116 : bytesT Try.prog 116 = some 4 := by kernel_rfl
@[go_sem] theorem szT118 : szT Try.prog 118 = some 1 := by kernel_rfl
@[go_sem] theorem aggT118 : aggT Try.prog 118 = some false := by kernel_rfl
@[go_sem] theorem boolT118 : boolT Try.prog 118 = false := by kernel_rfl
@[go_sem] theorem kT118 : kT Try.prog 118 = some .u64 := by kernel_rfl
@[go_sem] theorem knT118 : knT Try.prog 118 = true := by kernel_rfl
@[go_sem] theorem zeroT118 : zeroT Try.prog 118 = some (.int .u64 0) := by kernel_rfl
@[go_sem] theorem bytesT118 : bytesT Try.prog 118 = some 8 := by kernel_rfl
attribute [go_sem] Try.results3 Try.results4 Try.results5 Try.results6 Try.results7 Try.results8 Try.results9 Try.results10 Try.results11 Try.results12 Try.results13 Try.results14 Try.results15 Try.results16 Try.results17 Try.results18 Try.results19 Try.results20 Try.results21 Try.results22 Try.results23 Try.results24 Try.results25 Try.results26 Try.results27 Try.results28 Try.results29 Try.results30 Try.results31 Try.results32 Try.results33 Try.results34 Try.results35 Try.results36 Try.results37 Try.results38 Try.results39 Try.results40 Try.results41 Try.results42 Try.results43 Try.results44 Try.results45 Try.results46 Try.results47 Try.results48 Try.results49 Try.results50 Try.results51 Try.results52 Try.results53 Try.results54 Try.results55 Try.results56 Try.results57 Try.results58 Try.results59 Try.results60 Try.results61 Try.results62 Try.results63 Try.results64 Try.results65 Try.results66 Try.results68 Try.results69 Try.results70 Try.results71 Try.results73 Try.results74 Try.results75 Try.results84 Try.results85 Try.results86
end Go.V
