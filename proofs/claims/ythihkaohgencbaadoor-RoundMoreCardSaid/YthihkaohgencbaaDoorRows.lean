/-
  NARROWER THAN 'FOR EVERY INPUT', by the rows' own cells (each row's printed sentence says how): RoundChecks: laid · RoundFewest: laid · RoundRounds: laid · RoundCuts: laid · RoundSeymour: laid · RoundEnough: laid · RoundCounted: laid · RoundSides: laid · RoundKnown: laid · RoundMore: laid · RoundNamed: laid · RoundGone: laid.
  DERIVED. THE GIVEN ROWS OF THIS SEAT. 12 by the template 'for every input the law returns true; each argument reads behind the call as it read before'; 0 by the template 'total and deterministic' (their statements: YthihkaohgencbaaDoorTotals.lean).
  GIVEN WITH THE SEED: the statements are not yours to turn. If you find one false, say at which input.
  Laid BY PROGRAM, IN A SANDBOX (cutbox-rows.mjs): the forced cells as the released guide's own fill.sh prints them over the translation bb0fc7944dc7debb… (all of the seat's roots in one cut). By AI agents, Wed Nov 11 2026. No macro, syntax, notation, axiom, sorry.
-/
import Derived.Test.YthihkaohgencbaaDoorChecked
import GoSem.Claim
import GoSem.ClaimJoined
import GoSem.ClaimMapViews
import Derived.JoinedTies
import Derived.KernelRfl
namespace Go.Proofs.YthihkaohgencbaaDoor
/- THE CELL 'sum', in the pinned program and in every row, IS THE sha256 OF THE DUMP (.gsa) THAT YthihkaohgencbaaDoorProg.lean LOADS. Nothing in Lean hashes anything: it is a label: what it is worth is what the hold of that sum in a sandbox is worth. -/
noncomputable def Tryd.pinned : Pinned := { name := "ythihkaohgencbaadoor", sum := "bb0fc7944dc7debb88d1736618dcf3ae2f73c5dee24557c9275a27df43ef86e8", checked := Tryd.checked }
namespace Rows
def none {H : Type} : Left H := { results := [], args := [] }

/- WHAT THE LISTED PACKAGE-LEVEL VARIABLES READ AS WHEN THE CALL BEGINS. Each datum BY PROGRAM (the guide's laid-datum.mjs) off the statement by which the dump's own 'gosem.cut.vars' lays the variable. In a bare row this is a premise. The card (YthihkaohgencbaaDoorCards.lean) ties it to the program's text. -/
def laid_math_bits_deBruijn32tab {H : Type} : DataW H := .agg [.lit (.int .u8 0), .lit (.int .u8 1), .lit (.int .u8 28), .lit (.int .u8 2), .lit (.int .u8 29), .lit (.int .u8 14), .lit (.int .u8 24), .lit (.int .u8 3), .lit (.int .u8 30), .lit (.int .u8 22), .lit (.int .u8 20), .lit (.int .u8 15), .lit (.int .u8 25), .lit (.int .u8 17), .lit (.int .u8 4), .lit (.int .u8 8), .lit (.int .u8 31), .lit (.int .u8 27), .lit (.int .u8 13), .lit (.int .u8 23), .lit (.int .u8 21), .lit (.int .u8 19), .lit (.int .u8 16), .lit (.int .u8 7), .lit (.int .u8 26), .lit (.int .u8 12), .lit (.int .u8 18), .lit (.int .u8 6), .lit (.int .u8 11), .lit (.int .u8 5), .lit (.int .u8 10), .lit (.int .u8 9)]
def laid_math_bits_deBruijn64tab {H : Type} : DataW H := .agg [.lit (.int .u8 0), .lit (.int .u8 1), .lit (.int .u8 56), .lit (.int .u8 2), .lit (.int .u8 57), .lit (.int .u8 49), .lit (.int .u8 28), .lit (.int .u8 3), .lit (.int .u8 61), .lit (.int .u8 58), .lit (.int .u8 42), .lit (.int .u8 50), .lit (.int .u8 38), .lit (.int .u8 29), .lit (.int .u8 17), .lit (.int .u8 4), .lit (.int .u8 62), .lit (.int .u8 47), .lit (.int .u8 59), .lit (.int .u8 36), .lit (.int .u8 45), .lit (.int .u8 43), .lit (.int .u8 51), .lit (.int .u8 22), .lit (.int .u8 53), .lit (.int .u8 39), .lit (.int .u8 33), .lit (.int .u8 30), .lit (.int .u8 24), .lit (.int .u8 18), .lit (.int .u8 12), .lit (.int .u8 5), .lit (.int .u8 63), .lit (.int .u8 55), .lit (.int .u8 48), .lit (.int .u8 27), .lit (.int .u8 60), .lit (.int .u8 41), .lit (.int .u8 37), .lit (.int .u8 16), .lit (.int .u8 46), .lit (.int .u8 35), .lit (.int .u8 44), .lit (.int .u8 21), .lit (.int .u8 52), .lit (.int .u8 32), .lit (.int .u8 23), .lit (.int .u8 11), .lit (.int .u8 54), .lit (.int .u8 26), .lit (.int .u8 40), .lit (.int .u8 15), .lit (.int .u8 34), .lit (.int .u8 20), .lit (.int .u8 31), .lit (.int .u8 10), .lit (.int .u8 25), .lit (.int .u8 14), .lit (.int .u8 19), .lit (.int .u8 9), .lit (.int .u8 13), .lit (.int .u8 8), .lit (.int .u8 7), .lit (.int .u8 6)]

/-- 'breezelaw02.RoundChecks': WHATEVER THE INPUT: true; the input reads as it did. -/
def roundChecksSpec : ChangeSpec := { name := "roundChecks", fn := fun _ => fun
  | [d1, d2] => { results := [.lit (.bool true)], args := [d1, d2] }
  | _ => none }
def roundChecksRow : OpenClaim := { program := "ythihkaohgencbaadoor", sum := "bb0fc7944dc7debb88d1736618dcf3ae2f73c5dee24557c9275a27df43ef86e8", func := "breeze/breezelaw02.RoundChecks", spec := "roundChecks", unfollowed := true, recurses := true, named := ["math/bits.deBruijn32tab", "math/bits.deBruijn64tab"], apart := false, laid := [("math/bits.deBruijn32tab", laid_math_bits_deBruijn32tab), ("math/bits.deBruijn64tab", laid_math_bits_deBruijn64tab)] }
def RoundChecksSaid : Prop := roundChecksRow.holds Tryd.pinned (OpenSpec.ofChange roundChecksSpec)

/-- ITS FALSE NEIGHBOUR: 'it returns false'. Refute it at one input. -/
def roundChecksWrong : ChangeSpec := { name := "roundChecks", fn := fun _ => fun
  | [d1, d2] => { results := [.lit (.bool false)], args := [d1, d2] }
  | _ => none }
def RoundChecksWrongFalsely : Prop := roundChecksRow.holds Tryd.pinned (OpenSpec.ofChange roundChecksWrong)

/-- 'breezelaw02.RoundFewest': WHATEVER THE INPUT: true; the input reads as it did. -/
def roundFewestSpec : ChangeSpec := { name := "roundFewest", fn := fun _ => fun
  | [d] => { results := [.lit (.bool true)], args := [d] }
  | _ => none }
def roundFewestRow : OpenClaim := { program := "ythihkaohgencbaadoor", sum := "bb0fc7944dc7debb88d1736618dcf3ae2f73c5dee24557c9275a27df43ef86e8", func := "breeze/breezelaw02.RoundFewest", spec := "roundFewest", unfollowed := true, recurses := true, named := ["math/bits.deBruijn32tab", "math/bits.deBruijn64tab"], apart := false, laid := [("math/bits.deBruijn32tab", laid_math_bits_deBruijn32tab), ("math/bits.deBruijn64tab", laid_math_bits_deBruijn64tab)] }
def RoundFewestSaid : Prop := roundFewestRow.holds Tryd.pinned (OpenSpec.ofChange roundFewestSpec)

/-- ITS FALSE NEIGHBOUR: 'it returns false'. Refute it at one input. -/
def roundFewestWrong : ChangeSpec := { name := "roundFewest", fn := fun _ => fun
  | [d] => { results := [.lit (.bool false)], args := [d] }
  | _ => none }
def RoundFewestWrongFalsely : Prop := roundFewestRow.holds Tryd.pinned (OpenSpec.ofChange roundFewestWrong)

/-- 'breezelaw02.RoundRounds': WHATEVER THE INPUT: true; the input reads as it did. -/
def roundRoundsSpec : ChangeSpec := { name := "roundRounds", fn := fun _ => fun
  | [d1, d2, d3] => { results := [.lit (.bool true)], args := [d1, d2, d3] }
  | _ => none }
def roundRoundsRow : OpenClaim := { program := "ythihkaohgencbaadoor", sum := "bb0fc7944dc7debb88d1736618dcf3ae2f73c5dee24557c9275a27df43ef86e8", func := "breeze/breezelaw02.RoundRounds", spec := "roundRounds", unfollowed := true, recurses := true, named := ["math/bits.deBruijn32tab", "math/bits.deBruijn64tab"], apart := false, laid := [("math/bits.deBruijn32tab", laid_math_bits_deBruijn32tab), ("math/bits.deBruijn64tab", laid_math_bits_deBruijn64tab)] }
def RoundRoundsSaid : Prop := roundRoundsRow.holds Tryd.pinned (OpenSpec.ofChange roundRoundsSpec)

/-- ITS FALSE NEIGHBOUR: 'it returns false'. Refute it at one input. -/
def roundRoundsWrong : ChangeSpec := { name := "roundRounds", fn := fun _ => fun
  | [d1, d2, d3] => { results := [.lit (.bool false)], args := [d1, d2, d3] }
  | _ => none }
def RoundRoundsWrongFalsely : Prop := roundRoundsRow.holds Tryd.pinned (OpenSpec.ofChange roundRoundsWrong)

/-- 'breezelaw02.RoundCuts': WHATEVER THE INPUT: true; the input reads as it did. -/
def roundCutsSpec : ChangeSpec := { name := "roundCuts", fn := fun _ => fun
  | [d1, d2, d3] => { results := [.lit (.bool true)], args := [d1, d2, d3] }
  | _ => none }
def roundCutsRow : OpenClaim := { program := "ythihkaohgencbaadoor", sum := "bb0fc7944dc7debb88d1736618dcf3ae2f73c5dee24557c9275a27df43ef86e8", func := "breeze/breezelaw02.RoundCuts", spec := "roundCuts", unfollowed := true, recurses := true, named := ["math/bits.deBruijn32tab", "math/bits.deBruijn64tab"], apart := false, laid := [("math/bits.deBruijn32tab", laid_math_bits_deBruijn32tab), ("math/bits.deBruijn64tab", laid_math_bits_deBruijn64tab)] }
def RoundCutsSaid : Prop := roundCutsRow.holds Tryd.pinned (OpenSpec.ofChange roundCutsSpec)

/-- ITS FALSE NEIGHBOUR: 'it returns false'. Refute it at one input. -/
def roundCutsWrong : ChangeSpec := { name := "roundCuts", fn := fun _ => fun
  | [d1, d2, d3] => { results := [.lit (.bool false)], args := [d1, d2, d3] }
  | _ => none }
def RoundCutsWrongFalsely : Prop := roundCutsRow.holds Tryd.pinned (OpenSpec.ofChange roundCutsWrong)

/-- 'breezelaw02.RoundSeymour': WHATEVER THE INPUT: true; the input reads as it did. -/
def roundSeymourSpec : ChangeSpec := { name := "roundSeymour", fn := fun _ => fun
  | [d] => { results := [.lit (.bool true)], args := [d] }
  | _ => none }
def roundSeymourRow : OpenClaim := { program := "ythihkaohgencbaadoor", sum := "bb0fc7944dc7debb88d1736618dcf3ae2f73c5dee24557c9275a27df43ef86e8", func := "breeze/breezelaw02.RoundSeymour", spec := "roundSeymour", unfollowed := true, recurses := true, named := ["math/bits.deBruijn32tab", "math/bits.deBruijn64tab"], apart := false, laid := [("math/bits.deBruijn32tab", laid_math_bits_deBruijn32tab), ("math/bits.deBruijn64tab", laid_math_bits_deBruijn64tab)] }
def RoundSeymourSaid : Prop := roundSeymourRow.holds Tryd.pinned (OpenSpec.ofChange roundSeymourSpec)

/-- ITS FALSE NEIGHBOUR: 'it returns false'. Refute it at one input. -/
def roundSeymourWrong : ChangeSpec := { name := "roundSeymour", fn := fun _ => fun
  | [d] => { results := [.lit (.bool false)], args := [d] }
  | _ => none }
def RoundSeymourWrongFalsely : Prop := roundSeymourRow.holds Tryd.pinned (OpenSpec.ofChange roundSeymourWrong)

/-- 'breezelaw02.RoundEnough': WHATEVER THE INPUT: true; the input reads as it did. -/
def roundEnoughSpec : ChangeSpec := { name := "roundEnough", fn := fun _ => fun
  | [d] => { results := [.lit (.bool true)], args := [d] }
  | _ => none }
def roundEnoughRow : OpenClaim := { program := "ythihkaohgencbaadoor", sum := "bb0fc7944dc7debb88d1736618dcf3ae2f73c5dee24557c9275a27df43ef86e8", func := "breeze/breezelaw02.RoundEnough", spec := "roundEnough", unfollowed := true, recurses := true, named := ["math/bits.deBruijn32tab", "math/bits.deBruijn64tab"], apart := false, laid := [("math/bits.deBruijn32tab", laid_math_bits_deBruijn32tab), ("math/bits.deBruijn64tab", laid_math_bits_deBruijn64tab)] }
def RoundEnoughSaid : Prop := roundEnoughRow.holds Tryd.pinned (OpenSpec.ofChange roundEnoughSpec)

/-- ITS FALSE NEIGHBOUR: 'it returns false'. Refute it at one input. -/
def roundEnoughWrong : ChangeSpec := { name := "roundEnough", fn := fun _ => fun
  | [d] => { results := [.lit (.bool false)], args := [d] }
  | _ => none }
def RoundEnoughWrongFalsely : Prop := roundEnoughRow.holds Tryd.pinned (OpenSpec.ofChange roundEnoughWrong)

/-- 'breezelaw02.RoundCounted': WHATEVER THE INPUT: true; the input reads as it did. -/
def roundCountedSpec : ChangeSpec := { name := "roundCounted", fn := fun _ => fun
  | [d] => { results := [.lit (.bool true)], args := [d] }
  | _ => none }
def roundCountedRow : OpenClaim := { program := "ythihkaohgencbaadoor", sum := "bb0fc7944dc7debb88d1736618dcf3ae2f73c5dee24557c9275a27df43ef86e8", func := "breeze/breezelaw02.RoundCounted", spec := "roundCounted", unfollowed := true, recurses := true, named := ["math/bits.deBruijn32tab", "math/bits.deBruijn64tab"], apart := false, laid := [("math/bits.deBruijn32tab", laid_math_bits_deBruijn32tab), ("math/bits.deBruijn64tab", laid_math_bits_deBruijn64tab)] }
def RoundCountedSaid : Prop := roundCountedRow.holds Tryd.pinned (OpenSpec.ofChange roundCountedSpec)

/-- ITS FALSE NEIGHBOUR: 'it returns false'. Refute it at one input. -/
def roundCountedWrong : ChangeSpec := { name := "roundCounted", fn := fun _ => fun
  | [d] => { results := [.lit (.bool false)], args := [d] }
  | _ => none }
def RoundCountedWrongFalsely : Prop := roundCountedRow.holds Tryd.pinned (OpenSpec.ofChange roundCountedWrong)

/-- 'breezelaw02.RoundSides': WHATEVER THE INPUT: true; the input reads as it did. -/
def roundSidesSpec : ChangeSpec := { name := "roundSides", fn := fun _ => fun
  | [d1, d2, d3] => { results := [.lit (.bool true)], args := [d1, d2, d3] }
  | _ => none }
def roundSidesRow : OpenClaim := { program := "ythihkaohgencbaadoor", sum := "bb0fc7944dc7debb88d1736618dcf3ae2f73c5dee24557c9275a27df43ef86e8", func := "breeze/breezelaw02.RoundSides", spec := "roundSides", unfollowed := true, recurses := true, named := ["math/bits.deBruijn32tab", "math/bits.deBruijn64tab"], apart := false, laid := [("math/bits.deBruijn32tab", laid_math_bits_deBruijn32tab), ("math/bits.deBruijn64tab", laid_math_bits_deBruijn64tab)] }
def RoundSidesSaid : Prop := roundSidesRow.holds Tryd.pinned (OpenSpec.ofChange roundSidesSpec)

/-- ITS FALSE NEIGHBOUR: 'it returns false'. Refute it at one input. -/
def roundSidesWrong : ChangeSpec := { name := "roundSides", fn := fun _ => fun
  | [d1, d2, d3] => { results := [.lit (.bool false)], args := [d1, d2, d3] }
  | _ => none }
def RoundSidesWrongFalsely : Prop := roundSidesRow.holds Tryd.pinned (OpenSpec.ofChange roundSidesWrong)

/-- 'breezelaw02.RoundKnown': WHATEVER THE INPUT: true; the input reads as it did. -/
def roundKnownSpec : ChangeSpec := { name := "roundKnown", fn := fun _ => fun
  | [] => { results := [.lit (.bool true)], args := [] }
  | _ => none }
def roundKnownRow : OpenClaim := { program := "ythihkaohgencbaadoor", sum := "bb0fc7944dc7debb88d1736618dcf3ae2f73c5dee24557c9275a27df43ef86e8", func := "breeze/breezelaw02.RoundKnown", spec := "roundKnown", unfollowed := true, recurses := true, named := ["math/bits.deBruijn32tab", "math/bits.deBruijn64tab"], apart := false, laid := [("math/bits.deBruijn32tab", laid_math_bits_deBruijn32tab), ("math/bits.deBruijn64tab", laid_math_bits_deBruijn64tab)] }
def RoundKnownSaid : Prop := roundKnownRow.holds Tryd.pinned (OpenSpec.ofChange roundKnownSpec)

/-- ITS FALSE NEIGHBOUR: 'it returns false'. Refute it at one input. -/
def roundKnownWrong : ChangeSpec := { name := "roundKnown", fn := fun _ => fun
  | [] => { results := [.lit (.bool false)], args := [] }
  | _ => none }
def RoundKnownWrongFalsely : Prop := roundKnownRow.holds Tryd.pinned (OpenSpec.ofChange roundKnownWrong)

/-- 'breezelaw02.RoundMore': WHATEVER THE INPUT: true; the input reads as it did. -/
def roundMoreSpec : ChangeSpec := { name := "roundMore", fn := fun _ => fun
  | [d1, d2, d3] => { results := [.lit (.bool true)], args := [d1, d2, d3] }
  | _ => none }
def roundMoreRow : OpenClaim := { program := "ythihkaohgencbaadoor", sum := "bb0fc7944dc7debb88d1736618dcf3ae2f73c5dee24557c9275a27df43ef86e8", func := "breeze/breezelaw02.RoundMore", spec := "roundMore", unfollowed := true, recurses := true, named := ["math/bits.deBruijn32tab", "math/bits.deBruijn64tab"], apart := false, laid := [("math/bits.deBruijn32tab", laid_math_bits_deBruijn32tab), ("math/bits.deBruijn64tab", laid_math_bits_deBruijn64tab)] }
def RoundMoreSaid : Prop := roundMoreRow.holds Tryd.pinned (OpenSpec.ofChange roundMoreSpec)

/-- ITS FALSE NEIGHBOUR: 'it returns false'. Refute it at one input. -/
def roundMoreWrong : ChangeSpec := { name := "roundMore", fn := fun _ => fun
  | [d1, d2, d3] => { results := [.lit (.bool false)], args := [d1, d2, d3] }
  | _ => none }
def RoundMoreWrongFalsely : Prop := roundMoreRow.holds Tryd.pinned (OpenSpec.ofChange roundMoreWrong)

/-- 'breezelaw02.RoundNamed': WHATEVER THE INPUT: true; the input reads as it did. -/
def roundNamedSpec : ChangeSpec := { name := "roundNamed", fn := fun _ => fun
  | [d1, d2, d3] => { results := [.lit (.bool true)], args := [d1, d2, d3] }
  | _ => none }
def roundNamedRow : OpenClaim := { program := "ythihkaohgencbaadoor", sum := "bb0fc7944dc7debb88d1736618dcf3ae2f73c5dee24557c9275a27df43ef86e8", func := "breeze/breezelaw02.RoundNamed", spec := "roundNamed", unfollowed := true, recurses := true, named := ["math/bits.deBruijn32tab", "math/bits.deBruijn64tab"], apart := false, laid := [("math/bits.deBruijn32tab", laid_math_bits_deBruijn32tab), ("math/bits.deBruijn64tab", laid_math_bits_deBruijn64tab)] }
def RoundNamedSaid : Prop := roundNamedRow.holds Tryd.pinned (OpenSpec.ofChange roundNamedSpec)

/-- ITS FALSE NEIGHBOUR: 'it returns false'. Refute it at one input. -/
def roundNamedWrong : ChangeSpec := { name := "roundNamed", fn := fun _ => fun
  | [d1, d2, d3] => { results := [.lit (.bool false)], args := [d1, d2, d3] }
  | _ => none }
def RoundNamedWrongFalsely : Prop := roundNamedRow.holds Tryd.pinned (OpenSpec.ofChange roundNamedWrong)

/-- 'breezelaw02.RoundGone': WHATEVER THE INPUT: true; the input reads as it did. -/
def roundGoneSpec : ChangeSpec := { name := "roundGone", fn := fun _ => fun
  | [d1, d2] => { results := [.lit (.bool true)], args := [d1, d2] }
  | _ => none }
def roundGoneRow : OpenClaim := { program := "ythihkaohgencbaadoor", sum := "bb0fc7944dc7debb88d1736618dcf3ae2f73c5dee24557c9275a27df43ef86e8", func := "breeze/breezelaw02.RoundGone", spec := "roundGone", unfollowed := true, recurses := true, named := ["math/bits.deBruijn32tab", "math/bits.deBruijn64tab"], apart := false, laid := [("math/bits.deBruijn32tab", laid_math_bits_deBruijn32tab), ("math/bits.deBruijn64tab", laid_math_bits_deBruijn64tab)] }
def RoundGoneSaid : Prop := roundGoneRow.holds Tryd.pinned (OpenSpec.ofChange roundGoneSpec)

/-- ITS FALSE NEIGHBOUR: 'it returns false'. Refute it at one input. -/
def roundGoneWrong : ChangeSpec := { name := "roundGone", fn := fun _ => fun
  | [d1, d2] => { results := [.lit (.bool false)], args := [d1, d2] }
  | _ => none }
def RoundGoneWrongFalsely : Prop := roundGoneRow.holds Tryd.pinned (OpenSpec.ofChange roundGoneWrong)

/- THE SECOND FORM. 'bulk': how many values and letters a reading holds, each counted each time it is reached (what is shared counts as often as it is met; a slice's spare places count too). A statement '..UptoSaid' is the law's where the arguments, and the package variables that the reading takes, are together of bulk at most 1048576: NARROWER than '..Said'. Prove '..Said' where nothing that the law and all that it calls make is longer than what came in: it says more and counts as full. Else prove '..UptoSaid'. A law counts once. -/
mutual
def uptoBulk {H : Type} : DataW H → Nat
  | .lit (.string bytes) => bytes.length + 1
  | .lit _ => 1
  | .nil => 1
  | .ptr d => uptoBulk d + 1
  | .slice elems spare => uptoBulkAll elems + uptoBulkAll spare + 1
  | .agg parts => uptoBulkAll parts + 1
  | .iface _ d => uptoBulk d + 1
  | .map entries => uptoBulkEntries entries + 1
  | .held _ => 1
def uptoBulkAll {H : Type} : List (DataW H) → Nat
  | [] => 0
  | d :: r => uptoBulk d + uptoBulkAll r
def uptoBulkEntries {H : Type} : List (Lit × DataW H) → Nat
  | [] => 0
  | x :: r => uptoBulkEntry x + uptoBulkEntries r
def uptoBulkEntry {H : Type} : Lit × DataW H → Nat
  | (.string bytes, d) => bytes.length + uptoBulk d + 1
  | (_, d) => uptoBulk d + 1
 end
def uptoSmall : (H : Type) → List (DataW H) → Bool := fun _ ds => decide (uptoBulkAll ds ≤ 1048576)
def OpenSpec.upto (s : _root_.Go.ChangeSpec) : _root_.Go.OpenSpec := { _root_.Go.OpenSpec.ofChange s with cond := some uptoSmall }

/-- 'breezelaw02.RoundChecks', WHERE WHAT IT READS IS OF BULK AT MOST 1048576: true; the input reads as it did. -/
def roundChecksUptoRow : OpenClaim := { program := "ythihkaohgencbaadoor", sum := "bb0fc7944dc7debb88d1736618dcf3ae2f73c5dee24557c9275a27df43ef86e8", func := "breeze/breezelaw02.RoundChecks", spec := "roundChecks", unfollowed := true, recurses := true, named := ["math/bits.deBruijn32tab", "math/bits.deBruijn64tab"], apart := false, laid := [("math/bits.deBruijn32tab", laid_math_bits_deBruijn32tab), ("math/bits.deBruijn64tab", laid_math_bits_deBruijn64tab)], narrowed := true }
def RoundChecksUptoSaid : Prop := roundChecksUptoRow.holds Tryd.pinned (OpenSpec.upto roundChecksSpec)

/-- 'breezelaw02.RoundFewest', WHERE WHAT IT READS IS OF BULK AT MOST 1048576: true; the input reads as it did. -/
def roundFewestUptoRow : OpenClaim := { program := "ythihkaohgencbaadoor", sum := "bb0fc7944dc7debb88d1736618dcf3ae2f73c5dee24557c9275a27df43ef86e8", func := "breeze/breezelaw02.RoundFewest", spec := "roundFewest", unfollowed := true, recurses := true, named := ["math/bits.deBruijn32tab", "math/bits.deBruijn64tab"], apart := false, laid := [("math/bits.deBruijn32tab", laid_math_bits_deBruijn32tab), ("math/bits.deBruijn64tab", laid_math_bits_deBruijn64tab)], narrowed := true }
def RoundFewestUptoSaid : Prop := roundFewestUptoRow.holds Tryd.pinned (OpenSpec.upto roundFewestSpec)

/-- 'breezelaw02.RoundRounds', WHERE WHAT IT READS IS OF BULK AT MOST 1048576: true; the input reads as it did. -/
def roundRoundsUptoRow : OpenClaim := { program := "ythihkaohgencbaadoor", sum := "bb0fc7944dc7debb88d1736618dcf3ae2f73c5dee24557c9275a27df43ef86e8", func := "breeze/breezelaw02.RoundRounds", spec := "roundRounds", unfollowed := true, recurses := true, named := ["math/bits.deBruijn32tab", "math/bits.deBruijn64tab"], apart := false, laid := [("math/bits.deBruijn32tab", laid_math_bits_deBruijn32tab), ("math/bits.deBruijn64tab", laid_math_bits_deBruijn64tab)], narrowed := true }
def RoundRoundsUptoSaid : Prop := roundRoundsUptoRow.holds Tryd.pinned (OpenSpec.upto roundRoundsSpec)

/-- 'breezelaw02.RoundCuts', WHERE WHAT IT READS IS OF BULK AT MOST 1048576: true; the input reads as it did. -/
def roundCutsUptoRow : OpenClaim := { program := "ythihkaohgencbaadoor", sum := "bb0fc7944dc7debb88d1736618dcf3ae2f73c5dee24557c9275a27df43ef86e8", func := "breeze/breezelaw02.RoundCuts", spec := "roundCuts", unfollowed := true, recurses := true, named := ["math/bits.deBruijn32tab", "math/bits.deBruijn64tab"], apart := false, laid := [("math/bits.deBruijn32tab", laid_math_bits_deBruijn32tab), ("math/bits.deBruijn64tab", laid_math_bits_deBruijn64tab)], narrowed := true }
def RoundCutsUptoSaid : Prop := roundCutsUptoRow.holds Tryd.pinned (OpenSpec.upto roundCutsSpec)

/-- 'breezelaw02.RoundSeymour', WHERE WHAT IT READS IS OF BULK AT MOST 1048576: true; the input reads as it did. -/
def roundSeymourUptoRow : OpenClaim := { program := "ythihkaohgencbaadoor", sum := "bb0fc7944dc7debb88d1736618dcf3ae2f73c5dee24557c9275a27df43ef86e8", func := "breeze/breezelaw02.RoundSeymour", spec := "roundSeymour", unfollowed := true, recurses := true, named := ["math/bits.deBruijn32tab", "math/bits.deBruijn64tab"], apart := false, laid := [("math/bits.deBruijn32tab", laid_math_bits_deBruijn32tab), ("math/bits.deBruijn64tab", laid_math_bits_deBruijn64tab)], narrowed := true }
def RoundSeymourUptoSaid : Prop := roundSeymourUptoRow.holds Tryd.pinned (OpenSpec.upto roundSeymourSpec)

/-- 'breezelaw02.RoundEnough', WHERE WHAT IT READS IS OF BULK AT MOST 1048576: true; the input reads as it did. -/
def roundEnoughUptoRow : OpenClaim := { program := "ythihkaohgencbaadoor", sum := "bb0fc7944dc7debb88d1736618dcf3ae2f73c5dee24557c9275a27df43ef86e8", func := "breeze/breezelaw02.RoundEnough", spec := "roundEnough", unfollowed := true, recurses := true, named := ["math/bits.deBruijn32tab", "math/bits.deBruijn64tab"], apart := false, laid := [("math/bits.deBruijn32tab", laid_math_bits_deBruijn32tab), ("math/bits.deBruijn64tab", laid_math_bits_deBruijn64tab)], narrowed := true }
def RoundEnoughUptoSaid : Prop := roundEnoughUptoRow.holds Tryd.pinned (OpenSpec.upto roundEnoughSpec)

/-- 'breezelaw02.RoundCounted', WHERE WHAT IT READS IS OF BULK AT MOST 1048576: true; the input reads as it did. -/
def roundCountedUptoRow : OpenClaim := { program := "ythihkaohgencbaadoor", sum := "bb0fc7944dc7debb88d1736618dcf3ae2f73c5dee24557c9275a27df43ef86e8", func := "breeze/breezelaw02.RoundCounted", spec := "roundCounted", unfollowed := true, recurses := true, named := ["math/bits.deBruijn32tab", "math/bits.deBruijn64tab"], apart := false, laid := [("math/bits.deBruijn32tab", laid_math_bits_deBruijn32tab), ("math/bits.deBruijn64tab", laid_math_bits_deBruijn64tab)], narrowed := true }
def RoundCountedUptoSaid : Prop := roundCountedUptoRow.holds Tryd.pinned (OpenSpec.upto roundCountedSpec)

/-- 'breezelaw02.RoundSides', WHERE WHAT IT READS IS OF BULK AT MOST 1048576: true; the input reads as it did. -/
def roundSidesUptoRow : OpenClaim := { program := "ythihkaohgencbaadoor", sum := "bb0fc7944dc7debb88d1736618dcf3ae2f73c5dee24557c9275a27df43ef86e8", func := "breeze/breezelaw02.RoundSides", spec := "roundSides", unfollowed := true, recurses := true, named := ["math/bits.deBruijn32tab", "math/bits.deBruijn64tab"], apart := false, laid := [("math/bits.deBruijn32tab", laid_math_bits_deBruijn32tab), ("math/bits.deBruijn64tab", laid_math_bits_deBruijn64tab)], narrowed := true }
def RoundSidesUptoSaid : Prop := roundSidesUptoRow.holds Tryd.pinned (OpenSpec.upto roundSidesSpec)

/-- 'breezelaw02.RoundKnown', WHERE WHAT IT READS IS OF BULK AT MOST 1048576: true; the input reads as it did. -/
def roundKnownUptoRow : OpenClaim := { program := "ythihkaohgencbaadoor", sum := "bb0fc7944dc7debb88d1736618dcf3ae2f73c5dee24557c9275a27df43ef86e8", func := "breeze/breezelaw02.RoundKnown", spec := "roundKnown", unfollowed := true, recurses := true, named := ["math/bits.deBruijn32tab", "math/bits.deBruijn64tab"], apart := false, laid := [("math/bits.deBruijn32tab", laid_math_bits_deBruijn32tab), ("math/bits.deBruijn64tab", laid_math_bits_deBruijn64tab)], narrowed := true }
def RoundKnownUptoSaid : Prop := roundKnownUptoRow.holds Tryd.pinned (OpenSpec.upto roundKnownSpec)

/-- 'breezelaw02.RoundMore', WHERE WHAT IT READS IS OF BULK AT MOST 1048576: true; the input reads as it did. -/
def roundMoreUptoRow : OpenClaim := { program := "ythihkaohgencbaadoor", sum := "bb0fc7944dc7debb88d1736618dcf3ae2f73c5dee24557c9275a27df43ef86e8", func := "breeze/breezelaw02.RoundMore", spec := "roundMore", unfollowed := true, recurses := true, named := ["math/bits.deBruijn32tab", "math/bits.deBruijn64tab"], apart := false, laid := [("math/bits.deBruijn32tab", laid_math_bits_deBruijn32tab), ("math/bits.deBruijn64tab", laid_math_bits_deBruijn64tab)], narrowed := true }
def RoundMoreUptoSaid : Prop := roundMoreUptoRow.holds Tryd.pinned (OpenSpec.upto roundMoreSpec)

/-- 'breezelaw02.RoundNamed', WHERE WHAT IT READS IS OF BULK AT MOST 1048576: true; the input reads as it did. -/
def roundNamedUptoRow : OpenClaim := { program := "ythihkaohgencbaadoor", sum := "bb0fc7944dc7debb88d1736618dcf3ae2f73c5dee24557c9275a27df43ef86e8", func := "breeze/breezelaw02.RoundNamed", spec := "roundNamed", unfollowed := true, recurses := true, named := ["math/bits.deBruijn32tab", "math/bits.deBruijn64tab"], apart := false, laid := [("math/bits.deBruijn32tab", laid_math_bits_deBruijn32tab), ("math/bits.deBruijn64tab", laid_math_bits_deBruijn64tab)], narrowed := true }
def RoundNamedUptoSaid : Prop := roundNamedUptoRow.holds Tryd.pinned (OpenSpec.upto roundNamedSpec)

/-- 'breezelaw02.RoundGone', WHERE WHAT IT READS IS OF BULK AT MOST 1048576: true; the input reads as it did. -/
def roundGoneUptoRow : OpenClaim := { program := "ythihkaohgencbaadoor", sum := "bb0fc7944dc7debb88d1736618dcf3ae2f73c5dee24557c9275a27df43ef86e8", func := "breeze/breezelaw02.RoundGone", spec := "roundGone", unfollowed := true, recurses := true, named := ["math/bits.deBruijn32tab", "math/bits.deBruijn64tab"], apart := false, laid := [("math/bits.deBruijn32tab", laid_math_bits_deBruijn32tab), ("math/bits.deBruijn64tab", laid_math_bits_deBruijn64tab)], narrowed := true }
def RoundGoneUptoSaid : Prop := roundGoneUptoRow.holds Tryd.pinned (OpenSpec.upto roundGoneSpec)

end Rows
end Go.Proofs.YthihkaohgencbaaDoor
