/-
  DERIVED. GIVEN WITH THE SEED: THE CARDS: each row of YtaphkenfcnocbaaGreatDoorRows.lean that lists a variable, with what it lists TIED to the program's text (the seventh form; the later family's looks); each row that meets fmt, with fmt's text TOLD by the authors' own Lean function (tested against real Go, not proved from fmt's source: count such statements apart). THE CARD IS WHAT COUNTS. Prove the row's statement (the work); the ties are given (YtaphkenfcnocbaaGreatDoorTie.lean); close each card by the builder's one call (the guide's Derived/Test/ToyasCard.lean, 'card_holds'). Laid BY PROGRAM, IN A SANDBOX (cutbox-door.mjs). By AI agents, Wed Nov 11 2026. No macro, syntax, notation, axiom, sorry.
-/
import Derived.Test.YtaphkenfcnocbaaGreatDoorRows
import GoSem.ClaimSeven
namespace Go.Proofs.YtaphkenfcnocbaaGreatDoor
namespace Rows

/-- THE TIED CARD OF 'breezetop.TopWeekly'. -/
def topWeeklyCard : Claim7 := { stood := { row := topWeeklyRow, standIns := [], harness := (true, "e8a5211619014780e8d1fd405c33818d4c4f002417961a6eef615acc1c05657f"), looks := true }, kinds := [], alts := [], laidByText := true, laidKinds := [.data, .data], laidTests := true, laidLooks := .later }
def TopWeeklyCardSaid : Prop := Claim7.holds Tryz.pinned (.plain (OpenSpec.ofChange topWeeklySpec)) topWeeklyCard

/-- THE TIED CARD OF 'breezetop.TopRinged'. -/
def topRingedCard : Claim7 := { stood := { row := topRingedRow, standIns := [], harness := (true, "e8a5211619014780e8d1fd405c33818d4c4f002417961a6eef615acc1c05657f"), looks := true }, kinds := [], alts := [], laidByText := true, laidKinds := [.data, .data], laidTests := true, laidLooks := .later }
def TopRingedCardSaid : Prop := Claim7.holds Tryz.pinned (.plain (OpenSpec.ofChange topRingedSpec)) topRingedCard

/-- THE TIED CARD OF 'breezetop.TopDifferent'. -/
def topDifferentCard : Claim7 := { stood := { row := topDifferentRow, standIns := [], harness := (true, "e8a5211619014780e8d1fd405c33818d4c4f002417961a6eef615acc1c05657f"), looks := true }, kinds := [], alts := [], laidByText := true, laidKinds := [.data, .data], laidTests := true, laidLooks := .later }
def TopDifferentCardSaid : Prop := Claim7.holds Tryz.pinned (.plain (OpenSpec.ofChange topDifferentSpec)) topDifferentCard

/-- THE SECOND FORM's CARD OF 'breezetop.TopWeekly'. -/
def topWeeklyUptoCard : Claim7 := { stood := { row := topWeeklyUptoRow, standIns := [], harness := (true, "e8a5211619014780e8d1fd405c33818d4c4f002417961a6eef615acc1c05657f"), looks := true }, kinds := [], alts := [], laidByText := true, laidKinds := [.data, .data], laidTests := true, laidLooks := .later }
def TopWeeklyUptoCardSaid : Prop := Claim7.holds Tryz.pinned (.plain (OpenSpec.upto topWeeklySpec)) topWeeklyUptoCard

/-- THE SECOND FORM's CARD OF 'breezetop.TopRinged'. -/
def topRingedUptoCard : Claim7 := { stood := { row := topRingedUptoRow, standIns := [], harness := (true, "e8a5211619014780e8d1fd405c33818d4c4f002417961a6eef615acc1c05657f"), looks := true }, kinds := [], alts := [], laidByText := true, laidKinds := [.data, .data], laidTests := true, laidLooks := .later }
def TopRingedUptoCardSaid : Prop := Claim7.holds Tryz.pinned (.plain (OpenSpec.upto topRingedSpec)) topRingedUptoCard

/-- THE SECOND FORM's CARD OF 'breezetop.TopDifferent'. -/
def topDifferentUptoCard : Claim7 := { stood := { row := topDifferentUptoRow, standIns := [], harness := (true, "e8a5211619014780e8d1fd405c33818d4c4f002417961a6eef615acc1c05657f"), looks := true }, kinds := [], alts := [], laidByText := true, laidKinds := [.data, .data], laidTests := true, laidLooks := .later }
def TopDifferentUptoCardSaid : Prop := Claim7.holds Tryz.pinned (.plain (OpenSpec.upto topDifferentSpec)) topDifferentUptoCard
end Rows
end Go.Proofs.YtaphkenfcnocbaaGreatDoor
