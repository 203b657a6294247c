/-
  NARROWER THAN 'FOR EVERY INPUT', by the rows' own cells (each row's printed sentence says how): LotLots: laid · LotMost: laid · LotKinds: laid · LotSums: laid · LotCauchy: laid · LotOthers: laid · LotKnown: laid · LotShown: laid · LotNamed: laid · LotZiv: laid · LotTwo: laid · LotMade: laid · LotSome: laid.
  DERIVED. THE GIVEN ROWS OF THIS SEAT. 13 by the template 'for every input the law returns true; each argument reads behind the call as it read before'; 0 by the template 'total and deterministic' (their statements: YtnblnnfikpenpaaDoorTotals.lean).
  GIVEN WITH THE SEED: the statements are not yours to turn. If you find one false, say at which input.
  Laid BY PROGRAM, IN A SANDBOX (cutbox-rows.mjs): the forced cells as the released guide's own fill.sh prints them over the translation 8e2e497165f1d774… (all of the seat's roots in one cut). By AI agents, Wed Nov 11 2026. No macro, syntax, notation, axiom, sorry.
-/
import Derived.Test.YtnblnnfikpenpaaDoorChecked
import GoSem.Claim
import GoSem.ClaimJoined
import GoSem.ClaimMapViews
import Derived.JoinedTies
import Derived.KernelRfl
namespace Go.Proofs.YtnblnnfikpenpaaDoor
/- THE CELL 'sum', in the pinned program and in every row, IS THE sha256 OF THE DUMP (.gsa) THAT YtnblnnfikpenpaaDoorProg.lean LOADS. Nothing in Lean hashes anything: it is a label: what it is worth is what the hold of that sum in a sandbox is worth. -/
noncomputable def Tryd.pinned : Pinned := { name := "ytnblnnfikpenpaadoor", sum := "8e2e497165f1d7747c0e50c738d8d4ef8b98148b69b26238355c1d557d602d1f", checked := Tryd.checked }
namespace Rows
def none {H : Type} : Left H := { results := [], args := [] }

/- WHAT THE LISTED PACKAGE-LEVEL VARIABLES READ AS WHEN THE CALL BEGINS. Each datum BY PROGRAM (the guide's laid-datum.mjs) off the statement by which the dump's own 'gosem.cut.vars' lays the variable. In a bare row this is a premise. The card (YtnblnnfikpenpaaDoorCards.lean) ties it to the program's text. -/
def laid_math_bits_deBruijn32tab {H : Type} : DataW H := .agg [.lit (.int .u8 0), .lit (.int .u8 1), .lit (.int .u8 28), .lit (.int .u8 2), .lit (.int .u8 29), .lit (.int .u8 14), .lit (.int .u8 24), .lit (.int .u8 3), .lit (.int .u8 30), .lit (.int .u8 22), .lit (.int .u8 20), .lit (.int .u8 15), .lit (.int .u8 25), .lit (.int .u8 17), .lit (.int .u8 4), .lit (.int .u8 8), .lit (.int .u8 31), .lit (.int .u8 27), .lit (.int .u8 13), .lit (.int .u8 23), .lit (.int .u8 21), .lit (.int .u8 19), .lit (.int .u8 16), .lit (.int .u8 7), .lit (.int .u8 26), .lit (.int .u8 12), .lit (.int .u8 18), .lit (.int .u8 6), .lit (.int .u8 11), .lit (.int .u8 5), .lit (.int .u8 10), .lit (.int .u8 9)]
def laid_math_bits_deBruijn64tab {H : Type} : DataW H := .agg [.lit (.int .u8 0), .lit (.int .u8 1), .lit (.int .u8 56), .lit (.int .u8 2), .lit (.int .u8 57), .lit (.int .u8 49), .lit (.int .u8 28), .lit (.int .u8 3), .lit (.int .u8 61), .lit (.int .u8 58), .lit (.int .u8 42), .lit (.int .u8 50), .lit (.int .u8 38), .lit (.int .u8 29), .lit (.int .u8 17), .lit (.int .u8 4), .lit (.int .u8 62), .lit (.int .u8 47), .lit (.int .u8 59), .lit (.int .u8 36), .lit (.int .u8 45), .lit (.int .u8 43), .lit (.int .u8 51), .lit (.int .u8 22), .lit (.int .u8 53), .lit (.int .u8 39), .lit (.int .u8 33), .lit (.int .u8 30), .lit (.int .u8 24), .lit (.int .u8 18), .lit (.int .u8 12), .lit (.int .u8 5), .lit (.int .u8 63), .lit (.int .u8 55), .lit (.int .u8 48), .lit (.int .u8 27), .lit (.int .u8 60), .lit (.int .u8 41), .lit (.int .u8 37), .lit (.int .u8 16), .lit (.int .u8 46), .lit (.int .u8 35), .lit (.int .u8 44), .lit (.int .u8 21), .lit (.int .u8 52), .lit (.int .u8 32), .lit (.int .u8 23), .lit (.int .u8 11), .lit (.int .u8 54), .lit (.int .u8 26), .lit (.int .u8 40), .lit (.int .u8 15), .lit (.int .u8 34), .lit (.int .u8 20), .lit (.int .u8 31), .lit (.int .u8 10), .lit (.int .u8 25), .lit (.int .u8 14), .lit (.int .u8 19), .lit (.int .u8 9), .lit (.int .u8 13), .lit (.int .u8 8), .lit (.int .u8 7), .lit (.int .u8 6)]

/-- 'breezelaw07.LotLots': WHATEVER THE INPUT: true; the input reads as it did. -/
def lotLotsSpec : ChangeSpec := { name := "lotLots", fn := fun _ => fun
  | [d1, d2, d3] => { results := [.lit (.bool true)], args := [d1, d2, d3] }
  | _ => none }
def lotLotsRow : OpenClaim := { program := "ytnblnnfikpenpaadoor", sum := "8e2e497165f1d7747c0e50c738d8d4ef8b98148b69b26238355c1d557d602d1f", func := "breeze/breezelaw07.LotLots", spec := "lotLots", unfollowed := true, recurses := true, named := ["math/bits.deBruijn32tab", "math/bits.deBruijn64tab"], apart := false, laid := [("math/bits.deBruijn32tab", laid_math_bits_deBruijn32tab), ("math/bits.deBruijn64tab", laid_math_bits_deBruijn64tab)] }
def LotLotsSaid : Prop := lotLotsRow.holds Tryd.pinned (OpenSpec.ofChange lotLotsSpec)

/-- ITS FALSE NEIGHBOUR: 'it returns false'. Refute it at one input. -/
def lotLotsWrong : ChangeSpec := { name := "lotLots", fn := fun _ => fun
  | [d1, d2, d3] => { results := [.lit (.bool false)], args := [d1, d2, d3] }
  | _ => none }
def LotLotsWrongFalsely : Prop := lotLotsRow.holds Tryd.pinned (OpenSpec.ofChange lotLotsWrong)

/-- 'breezelaw07.LotMost': WHATEVER THE INPUT: true; the input reads as it did. -/
def lotMostSpec : ChangeSpec := { name := "lotMost", fn := fun _ => fun
  | [d1, d2] => { results := [.lit (.bool true)], args := [d1, d2] }
  | _ => none }
def lotMostRow : OpenClaim := { program := "ytnblnnfikpenpaadoor", sum := "8e2e497165f1d7747c0e50c738d8d4ef8b98148b69b26238355c1d557d602d1f", func := "breeze/breezelaw07.LotMost", spec := "lotMost", unfollowed := true, recurses := true, named := ["math/bits.deBruijn32tab", "math/bits.deBruijn64tab"], apart := false, laid := [("math/bits.deBruijn32tab", laid_math_bits_deBruijn32tab), ("math/bits.deBruijn64tab", laid_math_bits_deBruijn64tab)] }
def LotMostSaid : Prop := lotMostRow.holds Tryd.pinned (OpenSpec.ofChange lotMostSpec)

/-- ITS FALSE NEIGHBOUR: 'it returns false'. Refute it at one input. -/
def lotMostWrong : ChangeSpec := { name := "lotMost", fn := fun _ => fun
  | [d1, d2] => { results := [.lit (.bool false)], args := [d1, d2] }
  | _ => none }
def LotMostWrongFalsely : Prop := lotMostRow.holds Tryd.pinned (OpenSpec.ofChange lotMostWrong)

/-- 'breezelaw07.LotKinds': WHATEVER THE INPUT: true; the input reads as it did. -/
def lotKindsSpec : ChangeSpec := { name := "lotKinds", fn := fun _ => fun
  | [d1, d2] => { results := [.lit (.bool true)], args := [d1, d2] }
  | _ => none }
def lotKindsRow : OpenClaim := { program := "ytnblnnfikpenpaadoor", sum := "8e2e497165f1d7747c0e50c738d8d4ef8b98148b69b26238355c1d557d602d1f", func := "breeze/breezelaw07.LotKinds", spec := "lotKinds", unfollowed := true, recurses := true, named := ["math/bits.deBruijn32tab", "math/bits.deBruijn64tab"], apart := false, laid := [("math/bits.deBruijn32tab", laid_math_bits_deBruijn32tab), ("math/bits.deBruijn64tab", laid_math_bits_deBruijn64tab)] }
def LotKindsSaid : Prop := lotKindsRow.holds Tryd.pinned (OpenSpec.ofChange lotKindsSpec)

/-- ITS FALSE NEIGHBOUR: 'it returns false'. Refute it at one input. -/
def lotKindsWrong : ChangeSpec := { name := "lotKinds", fn := fun _ => fun
  | [d1, d2] => { results := [.lit (.bool false)], args := [d1, d2] }
  | _ => none }
def LotKindsWrongFalsely : Prop := lotKindsRow.holds Tryd.pinned (OpenSpec.ofChange lotKindsWrong)

/-- 'breezelaw07.LotSums': WHATEVER THE INPUT: true; the input reads as it did. -/
def lotSumsSpec : ChangeSpec := { name := "lotSums", fn := fun _ => fun
  | [d1, d2, d3, d4] => { results := [.lit (.bool true)], args := [d1, d2, d3, d4] }
  | _ => none }
def lotSumsRow : OpenClaim := { program := "ytnblnnfikpenpaadoor", sum := "8e2e497165f1d7747c0e50c738d8d4ef8b98148b69b26238355c1d557d602d1f", func := "breeze/breezelaw07.LotSums", spec := "lotSums", unfollowed := true, recurses := true, named := ["math/bits.deBruijn32tab", "math/bits.deBruijn64tab"], apart := false, laid := [("math/bits.deBruijn32tab", laid_math_bits_deBruijn32tab), ("math/bits.deBruijn64tab", laid_math_bits_deBruijn64tab)] }
def LotSumsSaid : Prop := lotSumsRow.holds Tryd.pinned (OpenSpec.ofChange lotSumsSpec)

/-- ITS FALSE NEIGHBOUR: 'it returns false'. Refute it at one input. -/
def lotSumsWrong : ChangeSpec := { name := "lotSums", fn := fun _ => fun
  | [d1, d2, d3, d4] => { results := [.lit (.bool false)], args := [d1, d2, d3, d4] }
  | _ => none }
def LotSumsWrongFalsely : Prop := lotSumsRow.holds Tryd.pinned (OpenSpec.ofChange lotSumsWrong)

/-- 'breezelaw07.LotCauchy': WHATEVER THE INPUT: true; the input reads as it did. -/
def lotCauchySpec : ChangeSpec := { name := "lotCauchy", fn := fun _ => fun
  | [d1, d2] => { results := [.lit (.bool true)], args := [d1, d2] }
  | _ => none }
def lotCauchyRow : OpenClaim := { program := "ytnblnnfikpenpaadoor", sum := "8e2e497165f1d7747c0e50c738d8d4ef8b98148b69b26238355c1d557d602d1f", func := "breeze/breezelaw07.LotCauchy", spec := "lotCauchy", unfollowed := true, recurses := true, named := ["math/bits.deBruijn32tab", "math/bits.deBruijn64tab"], apart := false, laid := [("math/bits.deBruijn32tab", laid_math_bits_deBruijn32tab), ("math/bits.deBruijn64tab", laid_math_bits_deBruijn64tab)] }
def LotCauchySaid : Prop := lotCauchyRow.holds Tryd.pinned (OpenSpec.ofChange lotCauchySpec)

/-- ITS FALSE NEIGHBOUR: 'it returns false'. Refute it at one input. -/
def lotCauchyWrong : ChangeSpec := { name := "lotCauchy", fn := fun _ => fun
  | [d1, d2] => { results := [.lit (.bool false)], args := [d1, d2] }
  | _ => none }
def LotCauchyWrongFalsely : Prop := lotCauchyRow.holds Tryd.pinned (OpenSpec.ofChange lotCauchyWrong)

/-- 'breezelaw07.LotOthers': WHATEVER THE INPUT: true; the input reads as it did. -/
def lotOthersSpec : ChangeSpec := { name := "lotOthers", fn := fun _ => fun
  | [d1, d2, d3] => { results := [.lit (.bool true)], args := [d1, d2, d3] }
  | _ => none }
def lotOthersRow : OpenClaim := { program := "ytnblnnfikpenpaadoor", sum := "8e2e497165f1d7747c0e50c738d8d4ef8b98148b69b26238355c1d557d602d1f", func := "breeze/breezelaw07.LotOthers", spec := "lotOthers", unfollowed := true, recurses := true, named := ["math/bits.deBruijn32tab", "math/bits.deBruijn64tab"], apart := false, laid := [("math/bits.deBruijn32tab", laid_math_bits_deBruijn32tab), ("math/bits.deBruijn64tab", laid_math_bits_deBruijn64tab)] }
def LotOthersSaid : Prop := lotOthersRow.holds Tryd.pinned (OpenSpec.ofChange lotOthersSpec)

/-- ITS FALSE NEIGHBOUR: 'it returns false'. Refute it at one input. -/
def lotOthersWrong : ChangeSpec := { name := "lotOthers", fn := fun _ => fun
  | [d1, d2, d3] => { results := [.lit (.bool false)], args := [d1, d2, d3] }
  | _ => none }
def LotOthersWrongFalsely : Prop := lotOthersRow.holds Tryd.pinned (OpenSpec.ofChange lotOthersWrong)

/-- 'breezelaw07.LotKnown': WHATEVER THE INPUT: true; the input reads as it did. -/
def lotKnownSpec : ChangeSpec := { name := "lotKnown", fn := fun _ => fun
  | [] => { results := [.lit (.bool true)], args := [] }
  | _ => none }
def lotKnownRow : OpenClaim := { program := "ytnblnnfikpenpaadoor", sum := "8e2e497165f1d7747c0e50c738d8d4ef8b98148b69b26238355c1d557d602d1f", func := "breeze/breezelaw07.LotKnown", spec := "lotKnown", unfollowed := true, recurses := true, named := ["math/bits.deBruijn32tab", "math/bits.deBruijn64tab"], apart := false, laid := [("math/bits.deBruijn32tab", laid_math_bits_deBruijn32tab), ("math/bits.deBruijn64tab", laid_math_bits_deBruijn64tab)] }
def LotKnownSaid : Prop := lotKnownRow.holds Tryd.pinned (OpenSpec.ofChange lotKnownSpec)

/-- ITS FALSE NEIGHBOUR: 'it returns false'. Refute it at one input. -/
def lotKnownWrong : ChangeSpec := { name := "lotKnown", fn := fun _ => fun
  | [] => { results := [.lit (.bool false)], args := [] }
  | _ => none }
def LotKnownWrongFalsely : Prop := lotKnownRow.holds Tryd.pinned (OpenSpec.ofChange lotKnownWrong)

/-- 'breezelaw07.LotShown': WHATEVER THE INPUT: true; the input reads as it did. -/
def lotShownSpec : ChangeSpec := { name := "lotShown", fn := fun _ => fun
  | [d1, d2, d3] => { results := [.lit (.bool true)], args := [d1, d2, d3] }
  | _ => none }
def lotShownRow : OpenClaim := { program := "ytnblnnfikpenpaadoor", sum := "8e2e497165f1d7747c0e50c738d8d4ef8b98148b69b26238355c1d557d602d1f", func := "breeze/breezelaw07.LotShown", spec := "lotShown", unfollowed := true, recurses := true, named := ["math/bits.deBruijn32tab", "math/bits.deBruijn64tab"], apart := false, laid := [("math/bits.deBruijn32tab", laid_math_bits_deBruijn32tab), ("math/bits.deBruijn64tab", laid_math_bits_deBruijn64tab)] }
def LotShownSaid : Prop := lotShownRow.holds Tryd.pinned (OpenSpec.ofChange lotShownSpec)

/-- ITS FALSE NEIGHBOUR: 'it returns false'. Refute it at one input. -/
def lotShownWrong : ChangeSpec := { name := "lotShown", fn := fun _ => fun
  | [d1, d2, d3] => { results := [.lit (.bool false)], args := [d1, d2, d3] }
  | _ => none }
def LotShownWrongFalsely : Prop := lotShownRow.holds Tryd.pinned (OpenSpec.ofChange lotShownWrong)

/-- 'breezelaw07.LotNamed': WHATEVER THE INPUT: true; the input reads as it did. -/
def lotNamedSpec : ChangeSpec := { name := "lotNamed", fn := fun _ => fun
  | [d1, d2, d3] => { results := [.lit (.bool true)], args := [d1, d2, d3] }
  | _ => none }
def lotNamedRow : OpenClaim := { program := "ytnblnnfikpenpaadoor", sum := "8e2e497165f1d7747c0e50c738d8d4ef8b98148b69b26238355c1d557d602d1f", func := "breeze/breezelaw07.LotNamed", spec := "lotNamed", unfollowed := true, recurses := true, named := ["math/bits.deBruijn32tab", "math/bits.deBruijn64tab"], apart := false, laid := [("math/bits.deBruijn32tab", laid_math_bits_deBruijn32tab), ("math/bits.deBruijn64tab", laid_math_bits_deBruijn64tab)] }
def LotNamedSaid : Prop := lotNamedRow.holds Tryd.pinned (OpenSpec.ofChange lotNamedSpec)

/-- ITS FALSE NEIGHBOUR: 'it returns false'. Refute it at one input. -/
def lotNamedWrong : ChangeSpec := { name := "lotNamed", fn := fun _ => fun
  | [d1, d2, d3] => { results := [.lit (.bool false)], args := [d1, d2, d3] }
  | _ => none }
def LotNamedWrongFalsely : Prop := lotNamedRow.holds Tryd.pinned (OpenSpec.ofChange lotNamedWrong)

/-- 'breezelaw07.LotZiv': WHATEVER THE INPUT: true; the input reads as it did. -/
def lotZivSpec : ChangeSpec := { name := "lotZiv", fn := fun _ => fun
  | [d] => { results := [.lit (.bool true)], args := [d] }
  | _ => none }
def lotZivRow : OpenClaim := { program := "ytnblnnfikpenpaadoor", sum := "8e2e497165f1d7747c0e50c738d8d4ef8b98148b69b26238355c1d557d602d1f", func := "breeze/breezelaw07.LotZiv", spec := "lotZiv", unfollowed := true, recurses := true, named := ["math/bits.deBruijn32tab", "math/bits.deBruijn64tab"], apart := false, laid := [("math/bits.deBruijn32tab", laid_math_bits_deBruijn32tab), ("math/bits.deBruijn64tab", laid_math_bits_deBruijn64tab)] }
def LotZivSaid : Prop := lotZivRow.holds Tryd.pinned (OpenSpec.ofChange lotZivSpec)

/-- ITS FALSE NEIGHBOUR: 'it returns false'. Refute it at one input. -/
def lotZivWrong : ChangeSpec := { name := "lotZiv", fn := fun _ => fun
  | [d] => { results := [.lit (.bool false)], args := [d] }
  | _ => none }
def LotZivWrongFalsely : Prop := lotZivRow.holds Tryd.pinned (OpenSpec.ofChange lotZivWrong)

/-- 'breezelaw07.LotTwo': WHATEVER THE INPUT: true; the input reads as it did. -/
def lotTwoSpec : ChangeSpec := { name := "lotTwo", fn := fun _ => fun
  | [d1, d2, d3, d4] => { results := [.lit (.bool true)], args := [d1, d2, d3, d4] }
  | _ => none }
def lotTwoRow : OpenClaim := { program := "ytnblnnfikpenpaadoor", sum := "8e2e497165f1d7747c0e50c738d8d4ef8b98148b69b26238355c1d557d602d1f", func := "breeze/breezelaw07.LotTwo", spec := "lotTwo", unfollowed := true, recurses := true, named := ["math/bits.deBruijn32tab", "math/bits.deBruijn64tab"], apart := false, laid := [("math/bits.deBruijn32tab", laid_math_bits_deBruijn32tab), ("math/bits.deBruijn64tab", laid_math_bits_deBruijn64tab)] }
def LotTwoSaid : Prop := lotTwoRow.holds Tryd.pinned (OpenSpec.ofChange lotTwoSpec)

/-- ITS FALSE NEIGHBOUR: 'it returns false'. Refute it at one input. -/
def lotTwoWrong : ChangeSpec := { name := "lotTwo", fn := fun _ => fun
  | [d1, d2, d3, d4] => { results := [.lit (.bool false)], args := [d1, d2, d3, d4] }
  | _ => none }
def LotTwoWrongFalsely : Prop := lotTwoRow.holds Tryd.pinned (OpenSpec.ofChange lotTwoWrong)

/-- 'breezelaw07.LotMade': WHATEVER THE INPUT: true; the input reads as it did. -/
def lotMadeSpec : ChangeSpec := { name := "lotMade", fn := fun _ => fun
  | [d1, d2] => { results := [.lit (.bool true)], args := [d1, d2] }
  | _ => none }
def lotMadeRow : OpenClaim := { program := "ytnblnnfikpenpaadoor", sum := "8e2e497165f1d7747c0e50c738d8d4ef8b98148b69b26238355c1d557d602d1f", func := "breeze/breezelaw07.LotMade", spec := "lotMade", unfollowed := true, recurses := true, named := ["math/bits.deBruijn32tab", "math/bits.deBruijn64tab"], apart := false, laid := [("math/bits.deBruijn32tab", laid_math_bits_deBruijn32tab), ("math/bits.deBruijn64tab", laid_math_bits_deBruijn64tab)] }
def LotMadeSaid : Prop := lotMadeRow.holds Tryd.pinned (OpenSpec.ofChange lotMadeSpec)

/-- ITS FALSE NEIGHBOUR: 'it returns false'. Refute it at one input. -/
def lotMadeWrong : ChangeSpec := { name := "lotMade", fn := fun _ => fun
  | [d1, d2] => { results := [.lit (.bool false)], args := [d1, d2] }
  | _ => none }
def LotMadeWrongFalsely : Prop := lotMadeRow.holds Tryd.pinned (OpenSpec.ofChange lotMadeWrong)

/-- 'breezelaw07.LotSome': WHATEVER THE INPUT: true; the input reads as it did. -/
def lotSomeSpec : ChangeSpec := { name := "lotSome", fn := fun _ => fun
  | [d1, d2] => { results := [.lit (.bool true)], args := [d1, d2] }
  | _ => none }
def lotSomeRow : OpenClaim := { program := "ytnblnnfikpenpaadoor", sum := "8e2e497165f1d7747c0e50c738d8d4ef8b98148b69b26238355c1d557d602d1f", func := "breeze/breezelaw07.LotSome", spec := "lotSome", unfollowed := true, recurses := true, named := ["math/bits.deBruijn32tab", "math/bits.deBruijn64tab"], apart := false, laid := [("math/bits.deBruijn32tab", laid_math_bits_deBruijn32tab), ("math/bits.deBruijn64tab", laid_math_bits_deBruijn64tab)] }
def LotSomeSaid : Prop := lotSomeRow.holds Tryd.pinned (OpenSpec.ofChange lotSomeSpec)

/-- ITS FALSE NEIGHBOUR: 'it returns false'. Refute it at one input. -/
def lotSomeWrong : ChangeSpec := { name := "lotSome", fn := fun _ => fun
  | [d1, d2] => { results := [.lit (.bool false)], args := [d1, d2] }
  | _ => none }
def LotSomeWrongFalsely : Prop := lotSomeRow.holds Tryd.pinned (OpenSpec.ofChange lotSomeWrong)

/- THE SECOND FORM. 'bulk': how many values and letters a reading holds, each counted each time it is reached (what is shared counts as often as it is met; a slice's spare places count too). A statement '..UptoSaid' is the law's where the arguments, and the package variables that the reading takes, are together of bulk at most 1048576: NARROWER than '..Said'. Prove '..Said' where nothing that the law and all that it calls make is longer than what came in: it says more and counts as full. Else prove '..UptoSaid'. A law counts once. -/
mutual
def uptoBulk {H : Type} : DataW H → Nat
  | .lit (.string bytes) => bytes.length + 1
  | .lit _ => 1
  | .nil => 1
  | .ptr d => uptoBulk d + 1
  | .slice elems spare => uptoBulkAll elems + uptoBulkAll spare + 1
  | .agg parts => uptoBulkAll parts + 1
  | .iface _ d => uptoBulk d + 1
  | .map entries => uptoBulkEntries entries + 1
  | .held _ => 1
def uptoBulkAll {H : Type} : List (DataW H) → Nat
  | [] => 0
  | d :: r => uptoBulk d + uptoBulkAll r
def uptoBulkEntries {H : Type} : List (Lit × DataW H) → Nat
  | [] => 0
  | x :: r => uptoBulkEntry x + uptoBulkEntries r
def uptoBulkEntry {H : Type} : Lit × DataW H → Nat
  | (.string bytes, d) => bytes.length + uptoBulk d + 1
  | (_, d) => uptoBulk d + 1
 end
def uptoSmall : (H : Type) → List (DataW H) → Bool := fun _ ds => decide (uptoBulkAll ds ≤ 1048576)
def OpenSpec.upto (s : _root_.Go.ChangeSpec) : _root_.Go.OpenSpec := { _root_.Go.OpenSpec.ofChange s with cond := some uptoSmall }

/-- 'breezelaw07.LotLots', WHERE WHAT IT READS IS OF BULK AT MOST 1048576: true; the input reads as it did. -/
def lotLotsUptoRow : OpenClaim := { program := "ytnblnnfikpenpaadoor", sum := "8e2e497165f1d7747c0e50c738d8d4ef8b98148b69b26238355c1d557d602d1f", func := "breeze/breezelaw07.LotLots", spec := "lotLots", unfollowed := true, recurses := true, named := ["math/bits.deBruijn32tab", "math/bits.deBruijn64tab"], apart := false, laid := [("math/bits.deBruijn32tab", laid_math_bits_deBruijn32tab), ("math/bits.deBruijn64tab", laid_math_bits_deBruijn64tab)], narrowed := true }
def LotLotsUptoSaid : Prop := lotLotsUptoRow.holds Tryd.pinned (OpenSpec.upto lotLotsSpec)

/-- 'breezelaw07.LotMost', WHERE WHAT IT READS IS OF BULK AT MOST 1048576: true; the input reads as it did. -/
def lotMostUptoRow : OpenClaim := { program := "ytnblnnfikpenpaadoor", sum := "8e2e497165f1d7747c0e50c738d8d4ef8b98148b69b26238355c1d557d602d1f", func := "breeze/breezelaw07.LotMost", spec := "lotMost", unfollowed := true, recurses := true, named := ["math/bits.deBruijn32tab", "math/bits.deBruijn64tab"], apart := false, laid := [("math/bits.deBruijn32tab", laid_math_bits_deBruijn32tab), ("math/bits.deBruijn64tab", laid_math_bits_deBruijn64tab)], narrowed := true }
def LotMostUptoSaid : Prop := lotMostUptoRow.holds Tryd.pinned (OpenSpec.upto lotMostSpec)

/-- 'breezelaw07.LotKinds', WHERE WHAT IT READS IS OF BULK AT MOST 1048576: true; the input reads as it did. -/
def lotKindsUptoRow : OpenClaim := { program := "ytnblnnfikpenpaadoor", sum := "8e2e497165f1d7747c0e50c738d8d4ef8b98148b69b26238355c1d557d602d1f", func := "breeze/breezelaw07.LotKinds", spec := "lotKinds", unfollowed := true, recurses := true, named := ["math/bits.deBruijn32tab", "math/bits.deBruijn64tab"], apart := false, laid := [("math/bits.deBruijn32tab", laid_math_bits_deBruijn32tab), ("math/bits.deBruijn64tab", laid_math_bits_deBruijn64tab)], narrowed := true }
def LotKindsUptoSaid : Prop := lotKindsUptoRow.holds Tryd.pinned (OpenSpec.upto lotKindsSpec)

/-- 'breezelaw07.LotSums', WHERE WHAT IT READS IS OF BULK AT MOST 1048576: true; the input reads as it did. -/
def lotSumsUptoRow : OpenClaim := { program := "ytnblnnfikpenpaadoor", sum := "8e2e497165f1d7747c0e50c738d8d4ef8b98148b69b26238355c1d557d602d1f", func := "breeze/breezelaw07.LotSums", spec := "lotSums", unfollowed := true, recurses := true, named := ["math/bits.deBruijn32tab", "math/bits.deBruijn64tab"], apart := false, laid := [("math/bits.deBruijn32tab", laid_math_bits_deBruijn32tab), ("math/bits.deBruijn64tab", laid_math_bits_deBruijn64tab)], narrowed := true }
def LotSumsUptoSaid : Prop := lotSumsUptoRow.holds Tryd.pinned (OpenSpec.upto lotSumsSpec)

/-- 'breezelaw07.LotCauchy', WHERE WHAT IT READS IS OF BULK AT MOST 1048576: true; the input reads as it did. -/
def lotCauchyUptoRow : OpenClaim := { program := "ytnblnnfikpenpaadoor", sum := "8e2e497165f1d7747c0e50c738d8d4ef8b98148b69b26238355c1d557d602d1f", func := "breeze/breezelaw07.LotCauchy", spec := "lotCauchy", unfollowed := true, recurses := true, named := ["math/bits.deBruijn32tab", "math/bits.deBruijn64tab"], apart := false, laid := [("math/bits.deBruijn32tab", laid_math_bits_deBruijn32tab), ("math/bits.deBruijn64tab", laid_math_bits_deBruijn64tab)], narrowed := true }
def LotCauchyUptoSaid : Prop := lotCauchyUptoRow.holds Tryd.pinned (OpenSpec.upto lotCauchySpec)

/-- 'breezelaw07.LotOthers', WHERE WHAT IT READS IS OF BULK AT MOST 1048576: true; the input reads as it did. -/
def lotOthersUptoRow : OpenClaim := { program := "ytnblnnfikpenpaadoor", sum := "8e2e497165f1d7747c0e50c738d8d4ef8b98148b69b26238355c1d557d602d1f", func := "breeze/breezelaw07.LotOthers", spec := "lotOthers", unfollowed := true, recurses := true, named := ["math/bits.deBruijn32tab", "math/bits.deBruijn64tab"], apart := false, laid := [("math/bits.deBruijn32tab", laid_math_bits_deBruijn32tab), ("math/bits.deBruijn64tab", laid_math_bits_deBruijn64tab)], narrowed := true }
def LotOthersUptoSaid : Prop := lotOthersUptoRow.holds Tryd.pinned (OpenSpec.upto lotOthersSpec)

/-- 'breezelaw07.LotKnown', WHERE WHAT IT READS IS OF BULK AT MOST 1048576: true; the input reads as it did. -/
def lotKnownUptoRow : OpenClaim := { program := "ytnblnnfikpenpaadoor", sum := "8e2e497165f1d7747c0e50c738d8d4ef8b98148b69b26238355c1d557d602d1f", func := "breeze/breezelaw07.LotKnown", spec := "lotKnown", unfollowed := true, recurses := true, named := ["math/bits.deBruijn32tab", "math/bits.deBruijn64tab"], apart := false, laid := [("math/bits.deBruijn32tab", laid_math_bits_deBruijn32tab), ("math/bits.deBruijn64tab", laid_math_bits_deBruijn64tab)], narrowed := true }
def LotKnownUptoSaid : Prop := lotKnownUptoRow.holds Tryd.pinned (OpenSpec.upto lotKnownSpec)

/-- 'breezelaw07.LotShown', WHERE WHAT IT READS IS OF BULK AT MOST 1048576: true; the input reads as it did. -/
def lotShownUptoRow : OpenClaim := { program := "ytnblnnfikpenpaadoor", sum := "8e2e497165f1d7747c0e50c738d8d4ef8b98148b69b26238355c1d557d602d1f", func := "breeze/breezelaw07.LotShown", spec := "lotShown", unfollowed := true, recurses := true, named := ["math/bits.deBruijn32tab", "math/bits.deBruijn64tab"], apart := false, laid := [("math/bits.deBruijn32tab", laid_math_bits_deBruijn32tab), ("math/bits.deBruijn64tab", laid_math_bits_deBruijn64tab)], narrowed := true }
def LotShownUptoSaid : Prop := lotShownUptoRow.holds Tryd.pinned (OpenSpec.upto lotShownSpec)

/-- 'breezelaw07.LotNamed', WHERE WHAT IT READS IS OF BULK AT MOST 1048576: true; the input reads as it did. -/
def lotNamedUptoRow : OpenClaim := { program := "ytnblnnfikpenpaadoor", sum := "8e2e497165f1d7747c0e50c738d8d4ef8b98148b69b26238355c1d557d602d1f", func := "breeze/breezelaw07.LotNamed", spec := "lotNamed", unfollowed := true, recurses := true, named := ["math/bits.deBruijn32tab", "math/bits.deBruijn64tab"], apart := false, laid := [("math/bits.deBruijn32tab", laid_math_bits_deBruijn32tab), ("math/bits.deBruijn64tab", laid_math_bits_deBruijn64tab)], narrowed := true }
def LotNamedUptoSaid : Prop := lotNamedUptoRow.holds Tryd.pinned (OpenSpec.upto lotNamedSpec)

/-- 'breezelaw07.LotZiv', WHERE WHAT IT READS IS OF BULK AT MOST 1048576: true; the input reads as it did. -/
def lotZivUptoRow : OpenClaim := { program := "ytnblnnfikpenpaadoor", sum := "8e2e497165f1d7747c0e50c738d8d4ef8b98148b69b26238355c1d557d602d1f", func := "breeze/breezelaw07.LotZiv", spec := "lotZiv", unfollowed := true, recurses := true, named := ["math/bits.deBruijn32tab", "math/bits.deBruijn64tab"], apart := false, laid := [("math/bits.deBruijn32tab", laid_math_bits_deBruijn32tab), ("math/bits.deBruijn64tab", laid_math_bits_deBruijn64tab)], narrowed := true }
def LotZivUptoSaid : Prop := lotZivUptoRow.holds Tryd.pinned (OpenSpec.upto lotZivSpec)

/-- 'breezelaw07.LotTwo', WHERE WHAT IT READS IS OF BULK AT MOST 1048576: true; the input reads as it did. -/
def lotTwoUptoRow : OpenClaim := { program := "ytnblnnfikpenpaadoor", sum := "8e2e497165f1d7747c0e50c738d8d4ef8b98148b69b26238355c1d557d602d1f", func := "breeze/breezelaw07.LotTwo", spec := "lotTwo", unfollowed := true, recurses := true, named := ["math/bits.deBruijn32tab", "math/bits.deBruijn64tab"], apart := false, laid := [("math/bits.deBruijn32tab", laid_math_bits_deBruijn32tab), ("math/bits.deBruijn64tab", laid_math_bits_deBruijn64tab)], narrowed := true }
def LotTwoUptoSaid : Prop := lotTwoUptoRow.holds Tryd.pinned (OpenSpec.upto lotTwoSpec)

/-- 'breezelaw07.LotMade', WHERE WHAT IT READS IS OF BULK AT MOST 1048576: true; the input reads as it did. -/
def lotMadeUptoRow : OpenClaim := { program := "ytnblnnfikpenpaadoor", sum := "8e2e497165f1d7747c0e50c738d8d4ef8b98148b69b26238355c1d557d602d1f", func := "breeze/breezelaw07.LotMade", spec := "lotMade", unfollowed := true, recurses := true, named := ["math/bits.deBruijn32tab", "math/bits.deBruijn64tab"], apart := false, laid := [("math/bits.deBruijn32tab", laid_math_bits_deBruijn32tab), ("math/bits.deBruijn64tab", laid_math_bits_deBruijn64tab)], narrowed := true }
def LotMadeUptoSaid : Prop := lotMadeUptoRow.holds Tryd.pinned (OpenSpec.upto lotMadeSpec)

/-- 'breezelaw07.LotSome', WHERE WHAT IT READS IS OF BULK AT MOST 1048576: true; the input reads as it did. -/
def lotSomeUptoRow : OpenClaim := { program := "ytnblnnfikpenpaadoor", sum := "8e2e497165f1d7747c0e50c738d8d4ef8b98148b69b26238355c1d557d602d1f", func := "breeze/breezelaw07.LotSome", spec := "lotSome", unfollowed := true, recurses := true, named := ["math/bits.deBruijn32tab", "math/bits.deBruijn64tab"], apart := false, laid := [("math/bits.deBruijn32tab", laid_math_bits_deBruijn32tab), ("math/bits.deBruijn64tab", laid_math_bits_deBruijn64tab)], narrowed := true }
def LotSomeUptoSaid : Prop := lotSomeUptoRow.holds Tryd.pinned (OpenSpec.upto lotSomeSpec)

end Rows
end Go.Proofs.YtnblnnfikpenpaaDoor
