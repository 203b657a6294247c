/-
  DERIVED. GIVEN WITH THE SEED: THE CARDS: each row of YthhfgcejamfinaaGreatDoorRows.lean that lists a variable, with what it lists TIED to the program's text (the seventh form; the later family's looks); each row that meets fmt, with fmt's text TOLD by the authors' own Lean function (tested against real Go, not proved from fmt's source: count such statements apart). THE CARD IS WHAT COUNTS. Prove the row's statement (the work); the ties are given (YthhfgcejamfinaaGreatDoorTie.lean); close each card by the builder's one call (the guide's Derived/Test/ToyasCard.lean, 'card_holds'). Laid BY PROGRAM, IN A SANDBOX (cutbox-door.mjs). By AI agents, Wed Nov 11 2026. No macro, syntax, notation, axiom, sorry.
-/
import Derived.Test.YthhfgcejamfinaaGreatDoorRows
import GoSem.ClaimSeven
namespace Go.Proofs.YthhfgcejamfinaaGreatDoor
namespace Rows

/-- THE TIED CARD OF 'breezelaw06.SaysClosed'. -/
def saysClosedCard : Claim7 := { stood := { row := saysClosedRow, standIns := [], harness := (true, "2bf4073a5190f717075babda81116f550505f8913670c9c564407b9b3f8fb2c8"), looks := false }, kinds := [], alts := [], laidByText := true, laidKinds := [.data, .data], laidTests := true, laidLooks := .later }
def SaysClosedCardSaid : Prop := Claim7.holds Tryz.pinned (.plain (OpenSpec.ofChange saysClosedSpec)) saysClosedCard

/-- THE SECOND FORM's CARD OF 'breezelaw06.SaysClosed'. -/
def saysClosedUptoCard : Claim7 := { stood := { row := saysClosedUptoRow, standIns := [], harness := (true, "2bf4073a5190f717075babda81116f550505f8913670c9c564407b9b3f8fb2c8"), looks := false }, kinds := [], alts := [], laidByText := true, laidKinds := [.data, .data], laidTests := true, laidLooks := .later }
def SaysClosedUptoCardSaid : Prop := Claim7.holds Tryz.pinned (.plain (OpenSpec.upto saysClosedSpec)) saysClosedUptoCard
end Rows
end Go.Proofs.YthhfgcejamfinaaGreatDoor
