/-
  DERIVED. GIVEN WITH THE SEED: THE CARDS: each row of YtlkanfakfmklbaaDoorRows.lean that lists a variable, with what it lists TIED to the program's text (the seventh form; the later family's looks); each row that meets fmt, with fmt's text TOLD by the authors' own Lean function (tested against real Go, not proved from fmt's source: count such statements apart). THE CARD IS WHAT COUNTS. Prove the row's statement (the work); the ties are given (YtlkanfakfmklbaaDoorTie.lean); close each card by the builder's one call (the guide's Derived/Test/ToyasCard.lean, 'card_holds'). Laid BY PROGRAM, IN A SANDBOX (cutbox-door.mjs). By AI agents, Wed Nov 11 2026. No macro, syntax, notation, axiom, sorry.
-/
import Derived.Test.YtlkanfakfmklbaaDoorRows
import GoSem.ClaimSeven
namespace Go.Proofs.YtlkanfakfmklbaaDoor
namespace Rows

/-- THE TIED CARD OF 'breezelaw06.SaysSpared'. -/
def saysSparedCard : Claim7 := { stood := { row := saysSparedRow, standIns := [], harness := (true, "7e03f44679444d752f138d1811e76bad66a1091f10a8218492cbae0d83709261"), looks := false }, kinds := [], alts := [], laidByText := true, laidKinds := [.data, .data], laidTests := true, laidLooks := .later }
def SaysSparedCardSaid : Prop := Claim7.holds Tryd.pinned (.plain (OpenSpec.ofChange saysSparedSpec)) saysSparedCard

/-- THE TIED CARD OF 'breezelaw06.SaysNamed'. -/
def saysNamedCard : Claim7 := { stood := { row := saysNamedRow, standIns := [], harness := (true, "7e03f44679444d752f138d1811e76bad66a1091f10a8218492cbae0d83709261"), looks := false }, kinds := [], alts := [], laidByText := true, laidKinds := [.data, .data], laidTests := true, laidLooks := .later }
def SaysNamedCardSaid : Prop := Claim7.holds Tryd.pinned (.plain (OpenSpec.ofChange saysNamedSpec)) saysNamedCard

/-- THE SECOND FORM's CARD OF 'breezelaw06.SaysSpared'. -/
def saysSparedUptoCard : Claim7 := { stood := { row := saysSparedUptoRow, standIns := [], harness := (true, "7e03f44679444d752f138d1811e76bad66a1091f10a8218492cbae0d83709261"), looks := false }, kinds := [], alts := [], laidByText := true, laidKinds := [.data, .data], laidTests := true, laidLooks := .later }
def SaysSparedUptoCardSaid : Prop := Claim7.holds Tryd.pinned (.plain (OpenSpec.upto saysSparedSpec)) saysSparedUptoCard

/-- THE SECOND FORM's CARD OF 'breezelaw06.SaysNamed'. -/
def saysNamedUptoCard : Claim7 := { stood := { row := saysNamedUptoRow, standIns := [], harness := (true, "7e03f44679444d752f138d1811e76bad66a1091f10a8218492cbae0d83709261"), looks := false }, kinds := [], alts := [], laidByText := true, laidKinds := [.data, .data], laidTests := true, laidLooks := .later }
def SaysNamedUptoCardSaid : Prop := Claim7.holds Tryd.pinned (.plain (OpenSpec.upto saysNamedSpec)) saysNamedUptoCard
end Rows
end Go.Proofs.YtlkanfakfmklbaaDoor
