/-
  No cell of these rows narrows 'for every input' (looked for: loops, veiled, ifaces, maps, wideKeys, modest, calm, conditions, laid).
  DERIVED. THE GIVEN ROWS OF THIS SEAT. 14 by the template 'for every input the law returns true; each argument reads behind the call as it read before'; 0 by the template 'total and deterministic' (their statements: YtggiakaeaalioaaTotals.lean).
  GIVEN WITH THE SEED: the statements are not yours to turn. If you find one false, say at which input.
  Laid BY PROGRAM, IN A SANDBOX (cutbox-rows.mjs): the forced cells as the released guide's own fill.sh prints them over the translation 5598d47ab4c59a2c… (all of the seat's roots in one cut). By AI agents, Wed Nov 11 2026. No macro, syntax, notation, axiom, sorry.
-/
import Derived.Test.YtggiakaeaalioaaChecked
import GoSem.Claim
import GoSem.ClaimJoined
import GoSem.ClaimMapViews
import Derived.JoinedTies
import Derived.KernelRfl
namespace Go.Proofs.Ytggiakaeaalioaa
/- THE CELL 'sum', in the pinned program and in every row, IS THE sha256 OF THE DUMP (.gsa) THAT YtggiakaeaalioaaProg.lean LOADS. Nothing in Lean hashes anything: it is a label: what it is worth is what the hold of that sum in a sandbox is worth. -/
noncomputable def Try.pinned : Pinned := { name := "ytggiakaeaalioaa", sum := "5598d47ab4c59a2cc3ce4ab3c2916af4998f2d0d3449537f03d43b825468c3eb", checked := Try.checked }
namespace Rows
def none {H : Type} : Left H := { results := [], args := [] }

/-- 'breezelaw05.SieveBests': WHATEVER THE INPUT: true; the input reads as it did. -/
def sieveBestsSpec : ChangeSpec := { name := "sieveBests", fn := fun _ => fun
  | [d] => { results := [.lit (.bool true)], args := [d] }
  | _ => none }
def sieveBestsRow : OpenClaim := { program := "ytggiakaeaalioaa", sum := "5598d47ab4c59a2cc3ce4ab3c2916af4998f2d0d3449537f03d43b825468c3eb", func := "breeze/breezelaw05.SieveBests", spec := "sieveBests", inPlace := ["slices.overlaps[int]"], unfollowed := true, recurses := true, apart := false }
def SieveBestsSaid : Prop := sieveBestsRow.holds Try.pinned (OpenSpec.ofChange sieveBestsSpec)

/-- ITS FALSE NEIGHBOUR: 'it returns false'. Refute it at one input. -/
def sieveBestsWrong : ChangeSpec := { name := "sieveBests", fn := fun _ => fun
  | [d] => { results := [.lit (.bool false)], args := [d] }
  | _ => none }
def SieveBestsWrongFalsely : Prop := sieveBestsRow.holds Try.pinned (OpenSpec.ofChange sieveBestsWrong)

/-- 'breezelaw05.SieveTopped': WHATEVER THE INPUT: true; the input reads as it did. -/
def sieveToppedSpec : ChangeSpec := { name := "sieveTopped", fn := fun _ => fun
  | [d] => { results := [.lit (.bool true)], args := [d] }
  | _ => none }
def sieveToppedRow : OpenClaim := { program := "ytggiakaeaalioaa", sum := "5598d47ab4c59a2cc3ce4ab3c2916af4998f2d0d3449537f03d43b825468c3eb", func := "breeze/breezelaw05.SieveTopped", spec := "sieveTopped", inPlace := ["slices.overlaps[int]"], unfollowed := true, recurses := true, apart := false }
def SieveToppedSaid : Prop := sieveToppedRow.holds Try.pinned (OpenSpec.ofChange sieveToppedSpec)

/-- ITS FALSE NEIGHBOUR: 'it returns false'. Refute it at one input. -/
def sieveToppedWrong : ChangeSpec := { name := "sieveTopped", fn := fun _ => fun
  | [d] => { results := [.lit (.bool false)], args := [d] }
  | _ => none }
def SieveToppedWrongFalsely : Prop := sieveToppedRow.holds Try.pinned (OpenSpec.ofChange sieveToppedWrong)

/-- 'breezelaw05.SieveLists': WHATEVER THE INPUT: true; the input reads as it did. -/
def sieveListsSpec : ChangeSpec := { name := "sieveLists", fn := fun _ => fun
  | [d1, d2, d3, d4] => { results := [.lit (.bool true)], args := [d1, d2, d3, d4] }
  | _ => none }
def sieveListsRow : OpenClaim := { program := "ytggiakaeaalioaa", sum := "5598d47ab4c59a2cc3ce4ab3c2916af4998f2d0d3449537f03d43b825468c3eb", func := "breeze/breezelaw05.SieveLists", spec := "sieveLists", inPlace := ["slices.overlaps[int]"], unfollowed := true, recurses := true, apart := false }
def SieveListsSaid : Prop := sieveListsRow.holds Try.pinned (OpenSpec.ofChange sieveListsSpec)

/-- ITS FALSE NEIGHBOUR: 'it returns false'. Refute it at one input. -/
def sieveListsWrong : ChangeSpec := { name := "sieveLists", fn := fun _ => fun
  | [d1, d2, d3, d4] => { results := [.lit (.bool false)], args := [d1, d2, d3, d4] }
  | _ => none }
def SieveListsWrongFalsely : Prop := sieveListsRow.holds Try.pinned (OpenSpec.ofChange sieveListsWrong)

/-- 'breezelaw05.SieveMakes': WHATEVER THE INPUT: true; the input reads as it did. -/
def sieveMakesSpec : ChangeSpec := { name := "sieveMakes", fn := fun _ => fun
  | [d1, d2, d3] => { results := [.lit (.bool true)], args := [d1, d2, d3] }
  | _ => none }
def sieveMakesRow : OpenClaim := { program := "ytggiakaeaalioaa", sum := "5598d47ab4c59a2cc3ce4ab3c2916af4998f2d0d3449537f03d43b825468c3eb", func := "breeze/breezelaw05.SieveMakes", spec := "sieveMakes", inPlace := ["slices.overlaps[int]"], unfollowed := true, recurses := true, apart := false }
def SieveMakesSaid : Prop := sieveMakesRow.holds Try.pinned (OpenSpec.ofChange sieveMakesSpec)

/-- ITS FALSE NEIGHBOUR: 'it returns false'. Refute it at one input. -/
def sieveMakesWrong : ChangeSpec := { name := "sieveMakes", fn := fun _ => fun
  | [d1, d2, d3] => { results := [.lit (.bool false)], args := [d1, d2, d3] }
  | _ => none }
def SieveMakesWrongFalsely : Prop := sieveMakesRow.holds Try.pinned (OpenSpec.ofChange sieveMakesWrong)

/-- 'breezelaw05.SieveBest': WHATEVER THE INPUT: true; the input reads as it did. -/
def sieveBestSpec : ChangeSpec := { name := "sieveBest", fn := fun _ => fun
  | [d] => { results := [.lit (.bool true)], args := [d] }
  | _ => none }
def sieveBestRow : OpenClaim := { program := "ytggiakaeaalioaa", sum := "5598d47ab4c59a2cc3ce4ab3c2916af4998f2d0d3449537f03d43b825468c3eb", func := "breeze/breezelaw05.SieveBest", spec := "sieveBest", inPlace := ["slices.overlaps[int]"], unfollowed := true, recurses := true, apart := false }
def SieveBestSaid : Prop := sieveBestRow.holds Try.pinned (OpenSpec.ofChange sieveBestSpec)

/-- ITS FALSE NEIGHBOUR: 'it returns false'. Refute it at one input. -/
def sieveBestWrong : ChangeSpec := { name := "sieveBest", fn := fun _ => fun
  | [d] => { results := [.lit (.bool false)], args := [d] }
  | _ => none }
def SieveBestWrongFalsely : Prop := sieveBestRow.holds Try.pinned (OpenSpec.ofChange sieveBestWrong)

/-- 'breezelaw05.SieveTops': WHATEVER THE INPUT: true; the input reads as it did. -/
def sieveTopsSpec : ChangeSpec := { name := "sieveTops", fn := fun _ => fun
  | [d] => { results := [.lit (.bool true)], args := [d] }
  | _ => none }
def sieveTopsRow : OpenClaim := { program := "ytggiakaeaalioaa", sum := "5598d47ab4c59a2cc3ce4ab3c2916af4998f2d0d3449537f03d43b825468c3eb", func := "breeze/breezelaw05.SieveTops", spec := "sieveTops", inPlace := ["slices.overlaps[int]"], unfollowed := true, recurses := true, apart := false }
def SieveTopsSaid : Prop := sieveTopsRow.holds Try.pinned (OpenSpec.ofChange sieveTopsSpec)

/-- ITS FALSE NEIGHBOUR: 'it returns false'. Refute it at one input. -/
def sieveTopsWrong : ChangeSpec := { name := "sieveTops", fn := fun _ => fun
  | [d] => { results := [.lit (.bool false)], args := [d] }
  | _ => none }
def SieveTopsWrongFalsely : Prop := sieveTopsRow.holds Try.pinned (OpenSpec.ofChange sieveTopsWrong)

/-- 'breezelaw05.SieveKraft': WHATEVER THE INPUT: true; the input reads as it did. -/
def sieveKraftSpec : ChangeSpec := { name := "sieveKraft", fn := fun _ => fun
  | [d1, d2] => { results := [.lit (.bool true)], args := [d1, d2] }
  | _ => none }
def sieveKraftRow : OpenClaim := { program := "ytggiakaeaalioaa", sum := "5598d47ab4c59a2cc3ce4ab3c2916af4998f2d0d3449537f03d43b825468c3eb", func := "breeze/breezelaw05.SieveKraft", spec := "sieveKraft", inPlace := ["slices.overlaps[int]"], unfollowed := true, recurses := true, apart := false }
def SieveKraftSaid : Prop := sieveKraftRow.holds Try.pinned (OpenSpec.ofChange sieveKraftSpec)

/-- ITS FALSE NEIGHBOUR: 'it returns false'. Refute it at one input. -/
def sieveKraftWrong : ChangeSpec := { name := "sieveKraft", fn := fun _ => fun
  | [d1, d2] => { results := [.lit (.bool false)], args := [d1, d2] }
  | _ => none }
def SieveKraftWrongFalsely : Prop := sieveKraftRow.holds Try.pinned (OpenSpec.ofChange sieveKraftWrong)

/-- 'breezelaw05.SieveNumbered': WHATEVER THE INPUT: true; the input reads as it did. -/
def sieveNumberedSpec : ChangeSpec := { name := "sieveNumbered", fn := fun _ => fun
  | [d1, d2] => { results := [.lit (.bool true)], args := [d1, d2] }
  | _ => none }
def sieveNumberedRow : OpenClaim := { program := "ytggiakaeaalioaa", sum := "5598d47ab4c59a2cc3ce4ab3c2916af4998f2d0d3449537f03d43b825468c3eb", func := "breeze/breezelaw05.SieveNumbered", spec := "sieveNumbered", inPlace := ["slices.overlaps[int]"], unfollowed := true, recurses := true, apart := false }
def SieveNumberedSaid : Prop := sieveNumberedRow.holds Try.pinned (OpenSpec.ofChange sieveNumberedSpec)

/-- ITS FALSE NEIGHBOUR: 'it returns false'. Refute it at one input. -/
def sieveNumberedWrong : ChangeSpec := { name := "sieveNumbered", fn := fun _ => fun
  | [d1, d2] => { results := [.lit (.bool false)], args := [d1, d2] }
  | _ => none }
def SieveNumberedWrongFalsely : Prop := sieveNumberedRow.holds Try.pinned (OpenSpec.ofChange sieveNumberedWrong)

/-- 'breezelaw05.SieveAsked': WHATEVER THE INPUT: true; the input reads as it did. -/
def sieveAskedSpec : ChangeSpec := { name := "sieveAsked", fn := fun _ => fun
  | [d1, d2, d3] => { results := [.lit (.bool true)], args := [d1, d2, d3] }
  | _ => none }
def sieveAskedRow : OpenClaim := { program := "ytggiakaeaalioaa", sum := "5598d47ab4c59a2cc3ce4ab3c2916af4998f2d0d3449537f03d43b825468c3eb", func := "breeze/breezelaw05.SieveAsked", spec := "sieveAsked", inPlace := ["slices.overlaps[int]"], unfollowed := true, recurses := true, apart := false }
def SieveAskedSaid : Prop := sieveAskedRow.holds Try.pinned (OpenSpec.ofChange sieveAskedSpec)

/-- ITS FALSE NEIGHBOUR: 'it returns false'. Refute it at one input. -/
def sieveAskedWrong : ChangeSpec := { name := "sieveAsked", fn := fun _ => fun
  | [d1, d2, d3] => { results := [.lit (.bool false)], args := [d1, d2, d3] }
  | _ => none }
def SieveAskedWrongFalsely : Prop := sieveAskedRow.holds Try.pinned (OpenSpec.ofChange sieveAskedWrong)

/-- 'breezelaw05.SieveTurned': WHATEVER THE INPUT: true; the input reads as it did. -/
def sieveTurnedSpec : ChangeSpec := { name := "sieveTurned", fn := fun _ => fun
  | [d] => { results := [.lit (.bool true)], args := [d] }
  | _ => none }
def sieveTurnedRow : OpenClaim := { program := "ytggiakaeaalioaa", sum := "5598d47ab4c59a2cc3ce4ab3c2916af4998f2d0d3449537f03d43b825468c3eb", func := "breeze/breezelaw05.SieveTurned", spec := "sieveTurned", inPlace := ["slices.overlaps[int]"], unfollowed := true, recurses := true, apart := false }
def SieveTurnedSaid : Prop := sieveTurnedRow.holds Try.pinned (OpenSpec.ofChange sieveTurnedSpec)

/-- ITS FALSE NEIGHBOUR: 'it returns false'. Refute it at one input. -/
def sieveTurnedWrong : ChangeSpec := { name := "sieveTurned", fn := fun _ => fun
  | [d] => { results := [.lit (.bool false)], args := [d] }
  | _ => none }
def SieveTurnedWrongFalsely : Prop := sieveTurnedRow.holds Try.pinned (OpenSpec.ofChange sieveTurnedWrong)

/-- 'breezelaw05.SieveKnown': WHATEVER THE INPUT: true; the input reads as it did. -/
def sieveKnownSpec : ChangeSpec := { name := "sieveKnown", fn := fun _ => fun
  | [] => { results := [.lit (.bool true)], args := [] }
  | _ => none }
def sieveKnownRow : OpenClaim := { program := "ytggiakaeaalioaa", sum := "5598d47ab4c59a2cc3ce4ab3c2916af4998f2d0d3449537f03d43b825468c3eb", func := "breeze/breezelaw05.SieveKnown", spec := "sieveKnown", inPlace := ["slices.overlaps[int]"], unfollowed := true, recurses := true, apart := false }
def SieveKnownSaid : Prop := sieveKnownRow.holds Try.pinned (OpenSpec.ofChange sieveKnownSpec)

/-- ITS FALSE NEIGHBOUR: 'it returns false'. Refute it at one input. -/
def sieveKnownWrong : ChangeSpec := { name := "sieveKnown", fn := fun _ => fun
  | [] => { results := [.lit (.bool false)], args := [] }
  | _ => none }
def SieveKnownWrongFalsely : Prop := sieveKnownRow.holds Try.pinned (OpenSpec.ofChange sieveKnownWrong)

/-- 'breezelaw05.SieveMade': WHATEVER THE INPUT: true; the input reads as it did. -/
def sieveMadeSpec : ChangeSpec := { name := "sieveMade", fn := fun _ => fun
  | [d1, d2] => { results := [.lit (.bool true)], args := [d1, d2] }
  | _ => none }
def sieveMadeRow : OpenClaim := { program := "ytggiakaeaalioaa", sum := "5598d47ab4c59a2cc3ce4ab3c2916af4998f2d0d3449537f03d43b825468c3eb", func := "breeze/breezelaw05.SieveMade", spec := "sieveMade", inPlace := ["slices.overlaps[int]"], unfollowed := true, recurses := true, apart := false }
def SieveMadeSaid : Prop := sieveMadeRow.holds Try.pinned (OpenSpec.ofChange sieveMadeSpec)

/-- ITS FALSE NEIGHBOUR: 'it returns false'. Refute it at one input. -/
def sieveMadeWrong : ChangeSpec := { name := "sieveMade", fn := fun _ => fun
  | [d1, d2] => { results := [.lit (.bool false)], args := [d1, d2] }
  | _ => none }
def SieveMadeWrongFalsely : Prop := sieveMadeRow.holds Try.pinned (OpenSpec.ofChange sieveMadeWrong)

/-- 'breezelaw05.SieveMore': WHATEVER THE INPUT: true; the input reads as it did. -/
def sieveMoreSpec : ChangeSpec := { name := "sieveMore", fn := fun _ => fun
  | [d1, d2] => { results := [.lit (.bool true)], args := [d1, d2] }
  | _ => none }
def sieveMoreRow : OpenClaim := { program := "ytggiakaeaalioaa", sum := "5598d47ab4c59a2cc3ce4ab3c2916af4998f2d0d3449537f03d43b825468c3eb", func := "breeze/breezelaw05.SieveMore", spec := "sieveMore", inPlace := ["slices.overlaps[int]"], unfollowed := true, recurses := true, apart := false }
def SieveMoreSaid : Prop := sieveMoreRow.holds Try.pinned (OpenSpec.ofChange sieveMoreSpec)

/-- ITS FALSE NEIGHBOUR: 'it returns false'. Refute it at one input. -/
def sieveMoreWrong : ChangeSpec := { name := "sieveMore", fn := fun _ => fun
  | [d1, d2] => { results := [.lit (.bool false)], args := [d1, d2] }
  | _ => none }
def SieveMoreWrongFalsely : Prop := sieveMoreRow.holds Try.pinned (OpenSpec.ofChange sieveMoreWrong)

/-- 'breezelaw05.SieveOrdered': WHATEVER THE INPUT: true; the input reads as it did. -/
def sieveOrderedSpec : ChangeSpec := { name := "sieveOrdered", fn := fun _ => fun
  | [d] => { results := [.lit (.bool true)], args := [d] }
  | _ => none }
def sieveOrderedRow : OpenClaim := { program := "ytggiakaeaalioaa", sum := "5598d47ab4c59a2cc3ce4ab3c2916af4998f2d0d3449537f03d43b825468c3eb", func := "breeze/breezelaw05.SieveOrdered", spec := "sieveOrdered", inPlace := ["slices.overlaps[int]"], unfollowed := true, recurses := true, apart := false }
def SieveOrderedSaid : Prop := sieveOrderedRow.holds Try.pinned (OpenSpec.ofChange sieveOrderedSpec)

/-- ITS FALSE NEIGHBOUR: 'it returns false'. Refute it at one input. -/
def sieveOrderedWrong : ChangeSpec := { name := "sieveOrdered", fn := fun _ => fun
  | [d] => { results := [.lit (.bool false)], args := [d] }
  | _ => none }
def SieveOrderedWrongFalsely : Prop := sieveOrderedRow.holds Try.pinned (OpenSpec.ofChange sieveOrderedWrong)

/- THE SECOND FORM. 'bulk': how many values and letters a reading holds, each counted each time it is reached (what is shared counts as often as it is met; a slice's spare places count too). A statement '..UptoSaid' is the law's where the arguments, and the package variables that the reading takes, are together of bulk at most 1048576: NARROWER than '..Said'. Prove '..Said' where nothing that the law and all that it calls make is longer than what came in: it says more and counts as full. Else prove '..UptoSaid'. A law counts once. -/
mutual
def uptoBulk {H : Type} : DataW H → Nat
  | .lit (.string bytes) => bytes.length + 1
  | .lit _ => 1
  | .nil => 1
  | .ptr d => uptoBulk d + 1
  | .slice elems spare => uptoBulkAll elems + uptoBulkAll spare + 1
  | .agg parts => uptoBulkAll parts + 1
  | .iface _ d => uptoBulk d + 1
  | .map entries => uptoBulkEntries entries + 1
  | .held _ => 1
def uptoBulkAll {H : Type} : List (DataW H) → Nat
  | [] => 0
  | d :: r => uptoBulk d + uptoBulkAll r
def uptoBulkEntries {H : Type} : List (Lit × DataW H) → Nat
  | [] => 0
  | x :: r => uptoBulkEntry x + uptoBulkEntries r
def uptoBulkEntry {H : Type} : Lit × DataW H → Nat
  | (.string bytes, d) => bytes.length + uptoBulk d + 1
  | (_, d) => uptoBulk d + 1
 end
def uptoSmall : (H : Type) → List (DataW H) → Bool := fun _ ds => decide (uptoBulkAll ds ≤ 1048576)
def OpenSpec.upto (s : _root_.Go.ChangeSpec) : _root_.Go.OpenSpec := { _root_.Go.OpenSpec.ofChange s with cond := some uptoSmall }

/-- 'breezelaw05.SieveBests', WHERE WHAT IT READS IS OF BULK AT MOST 1048576: true; the input reads as it did. -/
def sieveBestsUptoRow : OpenClaim := { program := "ytggiakaeaalioaa", sum := "5598d47ab4c59a2cc3ce4ab3c2916af4998f2d0d3449537f03d43b825468c3eb", func := "breeze/breezelaw05.SieveBests", spec := "sieveBests", inPlace := ["slices.overlaps[int]"], unfollowed := true, recurses := true, apart := false, narrowed := true }
def SieveBestsUptoSaid : Prop := sieveBestsUptoRow.holds Try.pinned (OpenSpec.upto sieveBestsSpec)

/-- 'breezelaw05.SieveTopped', WHERE WHAT IT READS IS OF BULK AT MOST 1048576: true; the input reads as it did. -/
def sieveToppedUptoRow : OpenClaim := { program := "ytggiakaeaalioaa", sum := "5598d47ab4c59a2cc3ce4ab3c2916af4998f2d0d3449537f03d43b825468c3eb", func := "breeze/breezelaw05.SieveTopped", spec := "sieveTopped", inPlace := ["slices.overlaps[int]"], unfollowed := true, recurses := true, apart := false, narrowed := true }
def SieveToppedUptoSaid : Prop := sieveToppedUptoRow.holds Try.pinned (OpenSpec.upto sieveToppedSpec)

/-- 'breezelaw05.SieveLists', WHERE WHAT IT READS IS OF BULK AT MOST 1048576: true; the input reads as it did. -/
def sieveListsUptoRow : OpenClaim := { program := "ytggiakaeaalioaa", sum := "5598d47ab4c59a2cc3ce4ab3c2916af4998f2d0d3449537f03d43b825468c3eb", func := "breeze/breezelaw05.SieveLists", spec := "sieveLists", inPlace := ["slices.overlaps[int]"], unfollowed := true, recurses := true, apart := false, narrowed := true }
def SieveListsUptoSaid : Prop := sieveListsUptoRow.holds Try.pinned (OpenSpec.upto sieveListsSpec)

/-- 'breezelaw05.SieveMakes', WHERE WHAT IT READS IS OF BULK AT MOST 1048576: true; the input reads as it did. -/
def sieveMakesUptoRow : OpenClaim := { program := "ytggiakaeaalioaa", sum := "5598d47ab4c59a2cc3ce4ab3c2916af4998f2d0d3449537f03d43b825468c3eb", func := "breeze/breezelaw05.SieveMakes", spec := "sieveMakes", inPlace := ["slices.overlaps[int]"], unfollowed := true, recurses := true, apart := false, narrowed := true }
def SieveMakesUptoSaid : Prop := sieveMakesUptoRow.holds Try.pinned (OpenSpec.upto sieveMakesSpec)

/-- 'breezelaw05.SieveBest', WHERE WHAT IT READS IS OF BULK AT MOST 1048576: true; the input reads as it did. -/
def sieveBestUptoRow : OpenClaim := { program := "ytggiakaeaalioaa", sum := "5598d47ab4c59a2cc3ce4ab3c2916af4998f2d0d3449537f03d43b825468c3eb", func := "breeze/breezelaw05.SieveBest", spec := "sieveBest", inPlace := ["slices.overlaps[int]"], unfollowed := true, recurses := true, apart := false, narrowed := true }
def SieveBestUptoSaid : Prop := sieveBestUptoRow.holds Try.pinned (OpenSpec.upto sieveBestSpec)

/-- 'breezelaw05.SieveTops', WHERE WHAT IT READS IS OF BULK AT MOST 1048576: true; the input reads as it did. -/
def sieveTopsUptoRow : OpenClaim := { program := "ytggiakaeaalioaa", sum := "5598d47ab4c59a2cc3ce4ab3c2916af4998f2d0d3449537f03d43b825468c3eb", func := "breeze/breezelaw05.SieveTops", spec := "sieveTops", inPlace := ["slices.overlaps[int]"], unfollowed := true, recurses := true, apart := false, narrowed := true }
def SieveTopsUptoSaid : Prop := sieveTopsUptoRow.holds Try.pinned (OpenSpec.upto sieveTopsSpec)

/-- 'breezelaw05.SieveKraft', WHERE WHAT IT READS IS OF BULK AT MOST 1048576: true; the input reads as it did. -/
def sieveKraftUptoRow : OpenClaim := { program := "ytggiakaeaalioaa", sum := "5598d47ab4c59a2cc3ce4ab3c2916af4998f2d0d3449537f03d43b825468c3eb", func := "breeze/breezelaw05.SieveKraft", spec := "sieveKraft", inPlace := ["slices.overlaps[int]"], unfollowed := true, recurses := true, apart := false, narrowed := true }
def SieveKraftUptoSaid : Prop := sieveKraftUptoRow.holds Try.pinned (OpenSpec.upto sieveKraftSpec)

/-- 'breezelaw05.SieveNumbered', WHERE WHAT IT READS IS OF BULK AT MOST 1048576: true; the input reads as it did. -/
def sieveNumberedUptoRow : OpenClaim := { program := "ytggiakaeaalioaa", sum := "5598d47ab4c59a2cc3ce4ab3c2916af4998f2d0d3449537f03d43b825468c3eb", func := "breeze/breezelaw05.SieveNumbered", spec := "sieveNumbered", inPlace := ["slices.overlaps[int]"], unfollowed := true, recurses := true, apart := false, narrowed := true }
def SieveNumberedUptoSaid : Prop := sieveNumberedUptoRow.holds Try.pinned (OpenSpec.upto sieveNumberedSpec)

/-- 'breezelaw05.SieveAsked', WHERE WHAT IT READS IS OF BULK AT MOST 1048576: true; the input reads as it did. -/
def sieveAskedUptoRow : OpenClaim := { program := "ytggiakaeaalioaa", sum := "5598d47ab4c59a2cc3ce4ab3c2916af4998f2d0d3449537f03d43b825468c3eb", func := "breeze/breezelaw05.SieveAsked", spec := "sieveAsked", inPlace := ["slices.overlaps[int]"], unfollowed := true, recurses := true, apart := false, narrowed := true }
def SieveAskedUptoSaid : Prop := sieveAskedUptoRow.holds Try.pinned (OpenSpec.upto sieveAskedSpec)

/-- 'breezelaw05.SieveTurned', WHERE WHAT IT READS IS OF BULK AT MOST 1048576: true; the input reads as it did. -/
def sieveTurnedUptoRow : OpenClaim := { program := "ytggiakaeaalioaa", sum := "5598d47ab4c59a2cc3ce4ab3c2916af4998f2d0d3449537f03d43b825468c3eb", func := "breeze/breezelaw05.SieveTurned", spec := "sieveTurned", inPlace := ["slices.overlaps[int]"], unfollowed := true, recurses := true, apart := false, narrowed := true }
def SieveTurnedUptoSaid : Prop := sieveTurnedUptoRow.holds Try.pinned (OpenSpec.upto sieveTurnedSpec)

/-- 'breezelaw05.SieveKnown', WHERE WHAT IT READS IS OF BULK AT MOST 1048576: true; the input reads as it did. -/
def sieveKnownUptoRow : OpenClaim := { program := "ytggiakaeaalioaa", sum := "5598d47ab4c59a2cc3ce4ab3c2916af4998f2d0d3449537f03d43b825468c3eb", func := "breeze/breezelaw05.SieveKnown", spec := "sieveKnown", inPlace := ["slices.overlaps[int]"], unfollowed := true, recurses := true, apart := false, narrowed := true }
def SieveKnownUptoSaid : Prop := sieveKnownUptoRow.holds Try.pinned (OpenSpec.upto sieveKnownSpec)

/-- 'breezelaw05.SieveMade', WHERE WHAT IT READS IS OF BULK AT MOST 1048576: true; the input reads as it did. -/
def sieveMadeUptoRow : OpenClaim := { program := "ytggiakaeaalioaa", sum := "5598d47ab4c59a2cc3ce4ab3c2916af4998f2d0d3449537f03d43b825468c3eb", func := "breeze/breezelaw05.SieveMade", spec := "sieveMade", inPlace := ["slices.overlaps[int]"], unfollowed := true, recurses := true, apart := false, narrowed := true }
def SieveMadeUptoSaid : Prop := sieveMadeUptoRow.holds Try.pinned (OpenSpec.upto sieveMadeSpec)

/-- 'breezelaw05.SieveMore', WHERE WHAT IT READS IS OF BULK AT MOST 1048576: true; the input reads as it did. -/
def sieveMoreUptoRow : OpenClaim := { program := "ytggiakaeaalioaa", sum := "5598d47ab4c59a2cc3ce4ab3c2916af4998f2d0d3449537f03d43b825468c3eb", func := "breeze/breezelaw05.SieveMore", spec := "sieveMore", inPlace := ["slices.overlaps[int]"], unfollowed := true, recurses := true, apart := false, narrowed := true }
def SieveMoreUptoSaid : Prop := sieveMoreUptoRow.holds Try.pinned (OpenSpec.upto sieveMoreSpec)

/-- 'breezelaw05.SieveOrdered', WHERE WHAT IT READS IS OF BULK AT MOST 1048576: true; the input reads as it did. -/
def sieveOrderedUptoRow : OpenClaim := { program := "ytggiakaeaalioaa", sum := "5598d47ab4c59a2cc3ce4ab3c2916af4998f2d0d3449537f03d43b825468c3eb", func := "breeze/breezelaw05.SieveOrdered", spec := "sieveOrdered", inPlace := ["slices.overlaps[int]"], unfollowed := true, recurses := true, apart := false, narrowed := true }
def SieveOrderedUptoSaid : Prop := sieveOrderedUptoRow.holds Try.pinned (OpenSpec.upto sieveOrderedSpec)

end Rows
end Go.Proofs.Ytggiakaeaalioaa
