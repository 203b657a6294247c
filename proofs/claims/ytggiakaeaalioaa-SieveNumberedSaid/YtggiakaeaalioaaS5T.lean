/-
  Facts of types. Conditions: none.
-/
import Derived.Test.YtggiakaeaalioaaVCalls
import Derived.KernelRfl
import Derived.Test.YtggiakaeaalioaaProg
set_option linter.unusedVariables false
set_option linter.unusedSimpArgs false
set_option linter.deprecated false
namespace Go.V
open Go.Proofs
set_option linter.unusedVariables false

theorem mixed : Try.prog.follows .mixedOrders = true := by kernel_rfl
@[go_sem] theorem szT3 : szT Try.prog 3 = some 1 := by kernel_rfl
@[go_sem] theorem aggT3 : aggT Try.prog 3 = some false := by kernel_rfl
@[go_sem] theorem boolT3 : boolT Try.prog 3 = false := by kernel_rfl
@[go_sem] theorem kT3 : kT Try.prog 3 = some .i64 := by kernel_rfl
@[go_sem] theorem knT3 : knT Try.prog 3 = true := by kernel_rfl
@[go_sem] theorem zeroT3 : zeroT Try.prog 3 = some (.int .i64 0) := by kernel_rfl
@[go_sem] theorem bytesT3 : bytesT Try.prog 3 = some 8 := by kernel_rfl
@[go_sem] theorem szT4 : szT Try.prog 4 = some 1 := by kernel_rfl
@[go_sem] theorem aggT4 : aggT Try.prog 4 = some false := by kernel_rfl
@[go_sem] theorem boolT4 : boolT Try.prog 4 = true := by kernel_rfl
@[go_sem] theorem zeroT4 : zeroT Try.prog 4 = some (.bool false) := by kernel_rfl
@[go_sem] theorem bytesT4 : bytesT Try.prog 4 = some 1 := by kernel_rfl
@[go_sem] theorem szT5 : szT Try.prog 5 = some 1 := by kernel_rfl
@[go_sem] theorem aggT5 : aggT Try.prog 5 = some false := by kernel_rfl
@[go_sem] theorem boolT5 : boolT Try.prog 5 = false := by kernel_rfl
@[go_sem] theorem kT5 : kT Try.prog 5 = some .u8 := by kernel_rfl
@[go_sem] theorem knT5 : knT Try.prog 5 = true := by kernel_rfl
@[go_sem] theorem zeroT5 : zeroT Try.prog 5 = some (.int .u8 0) := by kernel_rfl
@[go_sem] theorem bytesT5 : bytesT Try.prog 5 = some 1 := by kernel_rfl
@[go_sem] theorem szT9 : szT Try.prog 9 = some 1 := by kernel_rfl
@[go_sem] theorem aggT9 : aggT Try.prog 9 = some false := by kernel_rfl
@[go_sem] theorem boolT9 : boolT Try.prog 9 = false := by kernel_rfl
@[go_sem] theorem strT9 : Try.prog.underlying 9 = some .string := by kernel_rfl
@[go_sem] theorem bytesT9 : bytesT Try.prog 9 = some 16 := by kernel_rfl
@[go_sem] theorem szT22 : szT Try.prog 22 = some 1 := by kernel_rfl
@[go_sem] theorem aggT22 : aggT Try.prog 22 = some false := by kernel_rfl
@[go_sem] theorem boolT22 : boolT Try.prog 22 = false := by kernel_rfl
@[go_sem] theorem slT22 : slT Try.prog 22 = some (3, 1) := by kernel_rfl
@[go_sem] theorem zeroT22 : zeroT Try.prog 22 = some (.slice none 0 0) := by kernel_rfl
@[go_sem] theorem bytesT22 : bytesT Try.prog 22 = some 24 := by kernel_rfl
@[go_sem] theorem szT24 : szT Try.prog 24 = some 1 := by kernel_rfl
@[go_sem] theorem aggT24 : aggT Try.prog 24 = some false := by kernel_rfl
@[go_sem] theorem boolT24 : boolT Try.prog 24 = false := by kernel_rfl
@[go_sem] theorem kT24 : kT Try.prog 24 = some .i64 := by kernel_rfl
@[go_sem] theorem knT24 : knT Try.prog 24 = true := by kernel_rfl
@[go_sem] theorem zeroT24 : zeroT Try.prog 24 = some (.int .i64 0) := by kernel_rfl
@[go_sem] theorem bytesT24 : bytesT Try.prog 24 = some 8 := by kernel_rfl
@[go_sem] theorem szT42 : szT Try.prog 42 = some 8 := by kernel_rfl
@[go_sem] theorem aggT42 : aggT Try.prog 42 = some true := by kernel_rfl
@[go_sem] theorem boolT42 : boolT Try.prog 42 = false := by kernel_rfl
@[go_sem] theorem arT42 : arT Try.prog 42 = some (8, 5, 1) := by kernel_rfl
@[go_sem] theorem zeroT42 : zeroT Try.prog 42 = some (.agg #[.int .u8 0, .int .u8 0, .int .u8 0, .int .u8 0, .int .u8 0, .int .u8 0, .int .u8 0, .int .u8 0]) := by kernel_rfl
@[go_sem] theorem bytesT42 : bytesT Try.prog 42 = some 8 := by kernel_rfl
@[go_sem] theorem bldT42 : bldT Try.prog 42 = some ([.int .u8 0, .int .u8 0, .int .u8 0, .int .u8 0, .int .u8 0, .int .u8 0, .int .u8 0, .int .u8 0], fun i => some (i * 1, 1)) := by kernel_rfl
@[go_sem] theorem szT44 : szT Try.prog 44 = some 9 := by kernel_rfl
@[go_sem] theorem aggT44 : aggT Try.prog 44 = some true := by kernel_rfl
@[go_sem] theorem boolT44 : boolT Try.prog 44 = false := by kernel_rfl
@[go_sem] theorem fofT44_0 : fofT Try.prog 44 0 = some (0, 5, 1) := by kernel_rfl
@[go_sem] theorem fofT44_1 : fofT Try.prog 44 1 = some (1, 42, 8) := by kernel_rfl
@[go_sem] theorem zeroT44 : zeroT Try.prog 44 = some (.agg #[.int .u8 0, .int .u8 0, .int .u8 0, .int .u8 0, .int .u8 0, .int .u8 0, .int .u8 0, .int .u8 0, .int .u8 0]) := by kernel_rfl
@[go_sem] theorem bytesT44 : bytesT Try.prog 44 = some 9 := by kernel_rfl
@[go_sem] theorem bldT44 : bldT Try.prog 44 = some ([.int .u8 0, .int .u8 0, .int .u8 0, .int .u8 0, .int .u8 0, .int .u8 0, .int .u8 0, .int .u8 0, .int .u8 0], fun i => ([(0, 1), (1, 8)] : List (Nat × Nat))[i]?) := by kernel_rfl
@[go_sem] theorem szT48 : szT Try.prog 48 = some 1 := by kernel_rfl
@[go_sem] theorem aggT48 : aggT Try.prog 48 = some false := by kernel_rfl
@[go_sem] theorem boolT48 : boolT Try.prog 48 = false := by kernel_rfl
@[go_sem] theorem zeroT48 : zeroT Try.prog 48 = some (.nilFunc) := by kernel_rfl
@[go_sem] theorem bytesT48 : bytesT Try.prog 48 = some 8 := by kernel_rfl
@[go_sem] theorem szT50 : szT Try.prog 50 = some 1 := by kernel_rfl
@[go_sem] theorem aggT50 : aggT Try.prog 50 = some false := by kernel_rfl
@[go_sem] theorem boolT50 : boolT Try.prog 50 = false := by kernel_rfl
@[go_sem] theorem kT50 : kT Try.prog 50 = some .u16 := by kernel_rfl
@[go_sem] theorem knT50 : knT Try.prog 50 = true := by kernel_rfl
@[go_sem] theorem zeroT50 : zeroT Try.prog 50 = some (.int .u16 0) := by kernel_rfl
@[go_sem] theorem bytesT50 : bytesT Try.prog 50 = some 2 := by kernel_rfl
@[go_sem] theorem szT55 : szT Try.prog 55 = some 1 := by kernel_rfl
@[go_sem] theorem aggT55 : aggT Try.prog 55 = some false := by kernel_rfl
@[go_sem] theorem boolT55 : boolT Try.prog 55 = false := by kernel_rfl
@[go_sem] theorem slT55 : slT Try.prog 55 = some (5, 1) := by kernel_rfl
@[go_sem] theorem zeroT55 : zeroT Try.prog 55 = some (.slice none 0 0) := by kernel_rfl
@[go_sem] theorem bytesT55 : bytesT Try.prog 55 = some 24 := by kernel_rfl
@[go_sem] theorem szT64 : szT Try.prog 64 = some 1 := by kernel_rfl
@[go_sem] theorem aggT64 : aggT Try.prog 64 = some false := by kernel_rfl
@[go_sem] theorem boolT64 : boolT Try.prog 64 = false := by kernel_rfl
@[go_sem] theorem zeroT64 : zeroT Try.prog 64 = some (.pointer none) := by kernel_rfl
@[go_sem] theorem bytesT64 : bytesT Try.prog 64 = some 8 := by kernel_rfl
@[go_sem] theorem szT66 : szT Try.prog 66 = some 1 := by kernel_rfl
@[go_sem] theorem aggT66 : aggT Try.prog 66 = some false := by kernel_rfl
@[go_sem] theorem boolT66 : boolT Try.prog 66 = false := by kernel_rfl
@[go_sem] theorem zeroT66 : zeroT Try.prog 66 = some (.nilFunc) := by kernel_rfl
@[go_sem] theorem bytesT66 : bytesT Try.prog 66 = some 8 := by kernel_rfl
@[go_sem] theorem szT68 : szT Try.prog 68 = some 5 := by kernel_rfl
@[go_sem] theorem aggT68 : aggT Try.prog 68 = some true := by kernel_rfl
@[go_sem] theorem boolT68 : boolT Try.prog 68 = false := by kernel_rfl
@[go_sem] theorem fofT68_0 : fofT Try.prog 68 0 = some (0, 3, 1) := by kernel_rfl
@[go_sem] theorem fofT68_1 : fofT Try.prog 68 1 = some (1, 3, 1) := by kernel_rfl
@[go_sem] theorem fofT68_2 : fofT Try.prog 68 2 = some (2, 3, 1) := by kernel_rfl
@[go_sem] theorem fofT68_3 : fofT Try.prog 68 3 = some (3, 3, 1) := by kernel_rfl
@[go_sem] theorem fofT68_4 : fofT Try.prog 68 4 = some (4, 3, 1) := by kernel_rfl
@[go_sem] theorem zeroT68 : zeroT Try.prog 68 = some (.agg #[.int .i64 0, .int .i64 0, .int .i64 0, .int .i64 0, .int .i64 0]) := by kernel_rfl
@[go_sem] theorem bytesT68 : bytesT Try.prog 68 = some 40 := by kernel_rfl
@[go_sem] theorem bldT68 : bldT Try.prog 68 = some ([.int .i64 0, .int .i64 0, .int .i64 0, .int .i64 0, .int .i64 0], fun i => ([(0, 1), (1, 1), (2, 1), (3, 1), (4, 1)] : List (Nat × Nat))[i]?) := by kernel_rfl
@[go_sem] theorem eqA68 (x0 y0 : Int) (x1 y1 : Int) (x2 y2 : Int) (x3 y3 : Int) (x4 y4 : Int) : eqA Try.prog 68 [.val (.int .i64 x0), .val (.int .i64 x1), .val (.int .i64 x2), .val (.int .i64 x3), .val (.int .i64 x4)] [.val (.int .i64 y0), .val (.int .i64 y1), .val (.int .i64 y2), .val (.int .i64 y3), .val (.int .i64 y4)] = some (x0 == y0 && (x1 == y1 && (x2 == y2 && (x3 == y3 && (x4 == y4 && true))))) := by kernel_rfl
@[go_sem] theorem szT69 : szT Try.prog 69 = some 40 := by kernel_rfl
@[go_sem] theorem aggT69 : aggT Try.prog 69 = some true := by kernel_rfl
@[go_sem] theorem boolT69 : boolT Try.prog 69 = false := by kernel_rfl
@[go_sem] theorem arT69 : arT Try.prog 69 = some (8, 68, 5) := by kernel_rfl
@[go_sem] theorem zeroT69 : zeroT Try.prog 69 = some (.agg (List.replicate 40 (.int .i64 0)).toArray) := by kernel_rfl
@[go_sem] theorem bytesT69 : bytesT Try.prog 69 = some 320 := by kernel_rfl
@[go_sem] theorem szT70 : szT Try.prog 70 = some 1 := by kernel_rfl
@[go_sem] theorem aggT70 : aggT Try.prog 70 = some false := by kernel_rfl
@[go_sem] theorem boolT70 : boolT Try.prog 70 = false := by kernel_rfl
@[go_sem] theorem slT70 : slT Try.prog 70 = some (22, 1) := by kernel_rfl
@[go_sem] theorem zeroT70 : zeroT Try.prog 70 = some (.slice none 0 0) := by kernel_rfl
@[go_sem] theorem bytesT70 : bytesT Try.prog 70 = some 24 := by kernel_rfl
@[go_sem] theorem szT79 : szT Try.prog 79 = some 8 := by kernel_rfl
@[go_sem] theorem aggT79 : aggT Try.prog 79 = some true := by kernel_rfl
@[go_sem] theorem boolT79 : boolT Try.prog 79 = false := by kernel_rfl
@[go_sem] theorem arT79 : arT Try.prog 79 = some (8, 3, 1) := by kernel_rfl
@[go_sem] theorem zeroT79 : zeroT Try.prog 79 = some (.agg #[.int .i64 0, .int .i64 0, .int .i64 0, .int .i64 0, .int .i64 0, .int .i64 0, .int .i64 0, .int .i64 0]) := by kernel_rfl
@[go_sem] theorem bytesT79 : bytesT Try.prog 79 = some 64 := by kernel_rfl
@[go_sem] theorem bldT79 : bldT Try.prog 79 = some ([.int .i64 0, .int .i64 0, .int .i64 0, .int .i64 0, .int .i64 0, .int .i64 0, .int .i64 0, .int .i64 0], fun i => some (i * 1, 1)) := by kernel_rfl
@[go_sem] theorem szT80 : szT Try.prog 80 = some 1 := by kernel_rfl
@[go_sem] theorem aggT80 : aggT Try.prog 80 = some false := by kernel_rfl
@[go_sem] theorem boolT80 : boolT Try.prog 80 = false := by kernel_rfl
@[go_sem] theorem zeroT80 : zeroT Try.prog 80 = some (.pointer none) := by kernel_rfl
@[go_sem] theorem bytesT80 : bytesT Try.prog 80 = some 8 := by kernel_rfl
@[go_sem] theorem szT83 : szT Try.prog 83 = some 1 := by kernel_rfl
@[go_sem] theorem aggT83 : aggT Try.prog 83 = some false := by kernel_rfl
@[go_sem] theorem boolT83 : boolT Try.prog 83 = false := by kernel_rfl
@[go_sem] theorem zeroT83 : zeroT Try.prog 83 = some (.nilFunc) := by kernel_rfl
@[go_sem] theorem bytesT83 : bytesT Try.prog 83 = some 8 := by kernel_rfl
@[go_sem] theorem szT85 : szT Try.prog 85 = some 1 := by kernel_rfl
@[go_sem] theorem aggT85 : aggT Try.prog 85 = some false := by kernel_rfl
@[go_sem] theorem boolT85 : boolT Try.prog 85 = false := by kernel_rfl
@[go_sem] theorem zeroT85 : zeroT Try.prog 85 = some (.nilFunc) := by kernel_rfl
@[go_sem] theorem bytesT85 : bytesT Try.prog 85 = some 8 := by kernel_rfl
@[go_sem] theorem szT88 : szT Try.prog 88 = some 1 := by kernel_rfl
@[go_sem] theorem aggT88 : aggT Try.prog 88 = some false := by kernel_rfl
@[go_sem] theorem boolT88 : boolT Try.prog 88 = false := by kernel_rfl
@[go_sem] theorem slT88 : slT Try.prog 88 = some (90, 3) := by kernel_rfl
@[go_sem] theorem zeroT88 : zeroT Try.prog 88 = some (.slice none 0 0) := by kernel_rfl
@[go_sem] theorem bytesT88 : bytesT Try.prog 88 = some 24 := by kernel_rfl
@[go_sem] theorem szT90 : szT Try.prog 90 = some 3 := by kernel_rfl
@[go_sem] theorem aggT90 : aggT Try.prog 90 = some true := by kernel_rfl
@[go_sem] theorem boolT90 : boolT Try.prog 90 = false := by kernel_rfl
@[go_sem] theorem fofT90_0 : fofT Try.prog 90 0 = some (0, 3, 1) := by kernel_rfl
@[go_sem] theorem fofT90_1 : fofT Try.prog 90 1 = some (1, 3, 1) := by kernel_rfl
@[go_sem] theorem fofT90_2 : fofT Try.prog 90 2 = some (2, 22, 1) := by kernel_rfl
@[go_sem] theorem zeroT90 : zeroT Try.prog 90 = some (.agg #[.int .i64 0, .int .i64 0, .slice none 0 0]) := by kernel_rfl
@[go_sem] theorem bytesT90 : bytesT Try.prog 90 = some 40 := by kernel_rfl
@[go_sem] theorem bldT90 : bldT Try.prog 90 = some ([.int .i64 0, .int .i64 0, .slice none 0 0], fun i => ([(0, 1), (1, 1), (2, 1)] : List (Nat × Nat))[i]?) := by kernel_rfl
@[go_sem] theorem szT94 : szT Try.prog 94 = some 1 := by kernel_rfl
@[go_sem] theorem aggT94 : aggT Try.prog 94 = some false := by kernel_rfl
@[go_sem] theorem boolT94 : boolT Try.prog 94 = false := by kernel_rfl
@[go_sem] theorem kT94 : kT Try.prog 94 = some .u64 := by kernel_rfl
@[go_sem] theorem knT94 : knT Try.prog 94 = true := by kernel_rfl
@[go_sem] theorem zeroT94 : zeroT Try.prog 94 = some (.int .u64 0) := by kernel_rfl
@[go_sem] theorem bytesT94 : bytesT Try.prog 94 = some 8 := by kernel_rfl
@[go_sem] theorem szT98 : szT Try.prog 98 = some 1 := by kernel_rfl
@[go_sem] theorem aggT98 : aggT Try.prog 98 = some false := by kernel_rfl
@[go_sem] theorem boolT98 : boolT Try.prog 98 = false := by kernel_rfl
@[go_sem] theorem zeroT98 : zeroT Try.prog 98 = some (.nilFunc) := by kernel_rfl
@[go_sem] theorem bytesT98 : bytesT Try.prog 98 = some 8 := by kernel_rfl
@[go_sem] theorem szT100 : szT Try.prog 100 = some 320 := by kernel_rfl
@[go_sem] theorem aggT100 : aggT Try.prog 100 = some true := by kernel_rfl
@[go_sem] theorem boolT100 : boolT Try.prog 100 = false := by kernel_rfl
@[go_sem] theorem arT100 : arT Try.prog 100 = some (8, 69, 40) := by kernel_rfl
@[go_sem] theorem zeroT100 : zeroT Try.prog 100 = some (.agg (List.replicate 320 (.int .i64 0)).toArray) := by kernel_rfl
@[go_sem] theorem bytesT100 : bytesT Try.prog 100 = some 2560 := by kernel_rfl
@[go_sem] theorem szT102 : szT Try.prog 102 = some 1 := by kernel_rfl
@[go_sem] theorem aggT102 : aggT Try.prog 102 = some false := by kernel_rfl
@[go_sem] theorem boolT102 : boolT Try.prog 102 = false := by kernel_rfl
@[go_sem] theorem zeroT102 : zeroT Try.prog 102 = some (.nilFunc) := by kernel_rfl
@[go_sem] theorem bytesT102 : bytesT Try.prog 102 = some 8 := by kernel_rfl
@[go_sem] theorem szT107 : szT Try.prog 107 = some 64 := by kernel_rfl
@[go_sem] theorem aggT107 : aggT Try.prog 107 = some true := by kernel_rfl
@[go_sem] theorem boolT107 : boolT Try.prog 107 = false := by kernel_rfl
@[go_sem] theorem arT107 : arT Try.prog 107 = some (8, 79, 8) := by kernel_rfl
@[go_sem] theorem zeroT107 : zeroT Try.prog 107 = some (.agg (List.replicate 64 (.int .i64 0)).toArray) := by kernel_rfl
@[go_sem] theorem bytesT107 : bytesT Try.prog 107 = some 512 := by kernel_rfl
@[go_sem] theorem szT109 : szT Try.prog 109 = some 1 := by kernel_rfl
@[go_sem] theorem aggT109 : aggT Try.prog 109 = some false := by kernel_rfl
@[go_sem] theorem boolT109 : boolT Try.prog 109 = false := by kernel_rfl
@[go_sem] theorem zeroT109 : zeroT Try.prog 109 = some (.nilFunc) := by kernel_rfl
@[go_sem] theorem bytesT109 : bytesT Try.prog 109 = some 8 := by kernel_rfl
@[go_sem] theorem szT118 : szT Try.prog 118 = some 1 := by kernel_rfl
@[go_sem] theorem aggT118 : aggT Try.prog 118 = some false := by kernel_rfl
@[go_sem] theorem boolT118 : boolT Try.prog 118 = false := by kernel_rfl
@[go_sem] theorem kT118 : kT Try.prog 118 = some .u32 := by kernel_rfl
@[go_sem] theorem knT118 : knT Try.prog 118 = true := by kernel_rfl
@[go_sem] theorem zeroT118 : zeroT Try.prog 118 = some (.int .u32 0) := by kernel_rfl
@[go_sem] theorem bytesT118 : bytesT Try.prog 118 = some 4 := by kernel_rfl
@[go_sem] theorem szT120 : szT Try.prog 120 = some 1 := by kernel_rfl
@[go_sem] theorem aggT120 : aggT Try.prog 120 = some false := by kernel_rfl
@[go_sem] theorem boolT120 : boolT Try.prog 120 = false := by kernel_rfl
@[go_sem] theorem kT120 : kT Try.prog 120 = some .u64 := by kernel_rfl
@[go_sem] theorem knT120 : knT Try.prog 120 = true := by kernel_rfl
@[go_sem] theorem zeroT120 : zeroT Try.prog 120 = some (.int .u64 0) := by kernel_rfl
@[go_sem] theorem bytesT120 : bytesT Try.prog 120 = some 8 := by kernel_rfl
attribute [go_sem] beq_self_eq_true Option.all_some Option.all_none Option.some_beq_some Bool.and_self List.size_toArray cond_true cond_false beq_true beq_false bne_self_eq_false List.append_eq
attribute [go_sem] Try.results3 Try.results4 Try.results5 Try.results6 Try.results7 Try.results8 Try.results9 Try.results10 Try.results11 Try.results12 Try.results13 Try.results14 Try.results15 Try.results16 Try.results17 Try.results18 Try.results19 Try.results20 Try.results21 Try.results22 Try.results23 Try.results24 Try.results25 Try.results26 Try.results27 Try.results28 Try.results29 Try.results30 Try.results31 Try.results32 Try.results33 Try.results34 Try.results35 Try.results36 Try.results37 Try.results38 Try.results39 Try.results40 Try.results41 Try.results42 Try.results43 Try.results44 Try.results45 Try.results46 Try.results47 Try.results48 Try.results49 Try.results50 Try.results51 Try.results52 Try.results53 Try.results54 Try.results55 Try.results56 Try.results57 Try.results58 Try.results59 Try.results60 Try.results61 Try.results62 Try.results63 Try.results64 Try.results65 Try.results66 Try.results67 Try.results68 Try.results69 Try.results70 Try.results71 Try.results72 Try.results73 Try.results74 Try.results75 Try.results76 Try.results77 Try.results78 Try.results79 Try.results80 Try.results81 Try.results82 Try.results83 Try.results84 Try.results86 Try.results87 Try.results88 Try.results89 Try.results90 Try.results91 Try.results92 Try.results93 Try.results94 Try.results96 Try.results97 Try.results98 Try.results99 Try.results100 Try.results109 Try.results110 Try.results111 Try.results112 Try.results114
end Go.V
