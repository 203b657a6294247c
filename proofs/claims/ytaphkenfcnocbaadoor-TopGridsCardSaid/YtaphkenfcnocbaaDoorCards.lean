/-
  DERIVED. GIVEN WITH THE SEED: THE CARDS: each row of YtaphkenfcnocbaaDoorRows.lean that lists a variable, with what it lists TIED to the program's text (the seventh form; the later family's looks); each row that meets fmt, with fmt's text TOLD by the authors' own Lean function (tested against real Go, not proved from fmt's source: count such statements apart). THE CARD IS WHAT COUNTS. Prove the row's statement (the work); the ties are given (YtaphkenfcnocbaaDoorTie.lean); close each card by the builder's one call (the guide's Derived/Test/ToyasCard.lean, 'card_holds'). Laid BY PROGRAM, IN A SANDBOX (cutbox-door.mjs). By AI agents, Wed Nov 11 2026. No macro, syntax, notation, axiom, sorry.
-/
import Derived.Test.YtaphkenfcnocbaaDoorRows
import GoSem.ClaimSeven
namespace Go.Proofs.YtaphkenfcnocbaaDoor
namespace Rows

/-- THE TIED CARD OF 'breezetop.TopDiagonal'. -/
def topDiagonalCard : Claim7 := { stood := { row := topDiagonalRow, standIns := [], harness := (true, "ab5887493d10575dfd85be46c6f75bffb3d12c4e0286296dba2909a958689736"), looks := false }, kinds := [], alts := [], laidByText := true, laidKinds := [.data, .data], laidTests := true, laidLooks := .later }
def TopDiagonalCardSaid : Prop := Claim7.holds Tryd.pinned (.plain (OpenSpec.ofChange topDiagonalSpec)) topDiagonalCard

/-- THE TIED CARD OF 'breezetop.TopGrids'. -/
def topGridsCard : Claim7 := { stood := { row := topGridsRow, standIns := [], harness := (true, "ab5887493d10575dfd85be46c6f75bffb3d12c4e0286296dba2909a958689736"), looks := false }, kinds := [], alts := [], laidByText := true, laidKinds := [.data, .data], laidTests := true, laidLooks := .later }
def TopGridsCardSaid : Prop := Claim7.holds Tryd.pinned (.plain (OpenSpec.ofChange topGridsSpec)) topGridsCard

/-- THE TIED CARD OF 'breezetop.TopDays'. -/
def topDaysCard : Claim7 := { stood := { row := topDaysRow, standIns := [], harness := (true, "ab5887493d10575dfd85be46c6f75bffb3d12c4e0286296dba2909a958689736"), looks := false }, kinds := [], alts := [], laidByText := true, laidKinds := [.data, .data], laidTests := true, laidLooks := .later }
def TopDaysCardSaid : Prop := Claim7.holds Tryd.pinned (.plain (OpenSpec.ofChange topDaysSpec)) topDaysCard

/-- THE SECOND FORM's CARD OF 'breezetop.TopDiagonal'. -/
def topDiagonalUptoCard : Claim7 := { stood := { row := topDiagonalUptoRow, standIns := [], harness := (true, "ab5887493d10575dfd85be46c6f75bffb3d12c4e0286296dba2909a958689736"), looks := false }, kinds := [], alts := [], laidByText := true, laidKinds := [.data, .data], laidTests := true, laidLooks := .later }
def TopDiagonalUptoCardSaid : Prop := Claim7.holds Tryd.pinned (.plain (OpenSpec.upto topDiagonalSpec)) topDiagonalUptoCard

/-- THE SECOND FORM's CARD OF 'breezetop.TopGrids'. -/
def topGridsUptoCard : Claim7 := { stood := { row := topGridsUptoRow, standIns := [], harness := (true, "ab5887493d10575dfd85be46c6f75bffb3d12c4e0286296dba2909a958689736"), looks := false }, kinds := [], alts := [], laidByText := true, laidKinds := [.data, .data], laidTests := true, laidLooks := .later }
def TopGridsUptoCardSaid : Prop := Claim7.holds Tryd.pinned (.plain (OpenSpec.upto topGridsSpec)) topGridsUptoCard

/-- THE SECOND FORM's CARD OF 'breezetop.TopDays'. -/
def topDaysUptoCard : Claim7 := { stood := { row := topDaysUptoRow, standIns := [], harness := (true, "ab5887493d10575dfd85be46c6f75bffb3d12c4e0286296dba2909a958689736"), looks := false }, kinds := [], alts := [], laidByText := true, laidKinds := [.data, .data], laidTests := true, laidLooks := .later }
def TopDaysUptoCardSaid : Prop := Claim7.holds Tryd.pinned (.plain (OpenSpec.upto topDaysSpec)) topDaysUptoCard
end Rows
end Go.Proofs.YtaphkenfcnocbaaDoor
