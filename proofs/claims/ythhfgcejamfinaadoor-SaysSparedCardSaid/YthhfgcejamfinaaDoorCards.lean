/-
  DERIVED. GIVEN WITH THE SEED: THE CARDS: each row of YthhfgcejamfinaaDoorRows.lean that lists a variable, with what it lists TIED to the program's text (the seventh form; the later family's looks); each row that meets fmt, with fmt's text TOLD by the authors' own Lean function (tested against real Go, not proved from fmt's source: count such statements apart). THE CARD IS WHAT COUNTS. Prove the row's statement (the work); the ties are given (YthhfgcejamfinaaDoorTie.lean); close each card by the builder's one call (the guide's Derived/Test/ToyasCard.lean, 'card_holds'). Laid BY PROGRAM, IN A SANDBOX (cutbox-door.mjs). By AI agents, Wed Nov 11 2026. No macro, syntax, notation, axiom, sorry.
-/
import Derived.Test.YthhfgcejamfinaaDoorRows
import GoSem.ClaimSeven
namespace Go.Proofs.YthhfgcejamfinaaDoor
namespace Rows

/-- THE TIED CARD OF 'breezelaw06.SaysGuigues'. -/
def saysGuiguesCard : Claim7 := { stood := { row := saysGuiguesRow, standIns := [], harness := (true, "31c4bfeba54f81317853f7899b030cbcb0202ef9bf01d99d1dd8958978825777"), looks := false }, kinds := [], alts := [], laidByText := true, laidKinds := [.data, .data], laidTests := true, laidLooks := .later }
def SaysGuiguesCardSaid : Prop := Claim7.holds Tryd.pinned (.plain (OpenSpec.ofChange saysGuiguesSpec)) saysGuiguesCard

/-- THE TIED CARD OF 'breezelaw06.SaysProved'. -/
def saysProvedCard : Claim7 := { stood := { row := saysProvedRow, standIns := [], harness := (true, "31c4bfeba54f81317853f7899b030cbcb0202ef9bf01d99d1dd8958978825777"), looks := false }, kinds := [], alts := [], laidByText := true, laidKinds := [.data, .data], laidTests := true, laidLooks := .later }
def SaysProvedCardSaid : Prop := Claim7.holds Tryd.pinned (.plain (OpenSpec.ofChange saysProvedSpec)) saysProvedCard

/-- THE TIED CARD OF 'breezelaw06.SaysGone'. -/
def saysGoneCard : Claim7 := { stood := { row := saysGoneRow, standIns := [], harness := (true, "31c4bfeba54f81317853f7899b030cbcb0202ef9bf01d99d1dd8958978825777"), looks := false }, kinds := [], alts := [], laidByText := true, laidKinds := [.data, .data], laidTests := true, laidLooks := .later }
def SaysGoneCardSaid : Prop := Claim7.holds Tryd.pinned (.plain (OpenSpec.ofChange saysGoneSpec)) saysGoneCard

/-- THE TIED CARD OF 'breezelaw06.SaysFewest'. -/
def saysFewestCard : Claim7 := { stood := { row := saysFewestRow, standIns := [], harness := (true, "31c4bfeba54f81317853f7899b030cbcb0202ef9bf01d99d1dd8958978825777"), looks := false }, kinds := [], alts := [], laidByText := true, laidKinds := [.data, .data], laidTests := true, laidLooks := .later }
def SaysFewestCardSaid : Prop := Claim7.holds Tryd.pinned (.plain (OpenSpec.ofChange saysFewestSpec)) saysFewestCard

/-- THE TIED CARD OF 'breezelaw06.SaysMore'. -/
def saysMoreCard : Claim7 := { stood := { row := saysMoreRow, standIns := [], harness := (true, "31c4bfeba54f81317853f7899b030cbcb0202ef9bf01d99d1dd8958978825777"), looks := false }, kinds := [], alts := [], laidByText := true, laidKinds := [.data, .data], laidTests := true, laidLooks := .later }
def SaysMoreCardSaid : Prop := Claim7.holds Tryd.pinned (.plain (OpenSpec.ofChange saysMoreSpec)) saysMoreCard

/-- THE TIED CARD OF 'breezelaw06.SaysSpared'. -/
def saysSparedCard : Claim7 := { stood := { row := saysSparedRow, standIns := [], harness := (true, "31c4bfeba54f81317853f7899b030cbcb0202ef9bf01d99d1dd8958978825777"), looks := false }, kinds := [], alts := [], laidByText := true, laidKinds := [.data, .data], laidTests := true, laidLooks := .later }
def SaysSparedCardSaid : Prop := Claim7.holds Tryd.pinned (.plain (OpenSpec.ofChange saysSparedSpec)) saysSparedCard

/-- THE TIED CARD OF 'breezelaw06.SaysNamed'. -/
def saysNamedCard : Claim7 := { stood := { row := saysNamedRow, standIns := [], harness := (true, "31c4bfeba54f81317853f7899b030cbcb0202ef9bf01d99d1dd8958978825777"), looks := false }, kinds := [], alts := [], laidByText := true, laidKinds := [.data, .data], laidTests := true, laidLooks := .later }
def SaysNamedCardSaid : Prop := Claim7.holds Tryd.pinned (.plain (OpenSpec.ofChange saysNamedSpec)) saysNamedCard

/-- THE SECOND FORM's CARD OF 'breezelaw06.SaysGuigues'. -/
def saysGuiguesUptoCard : Claim7 := { stood := { row := saysGuiguesUptoRow, standIns := [], harness := (true, "31c4bfeba54f81317853f7899b030cbcb0202ef9bf01d99d1dd8958978825777"), looks := false }, kinds := [], alts := [], laidByText := true, laidKinds := [.data, .data], laidTests := true, laidLooks := .later }
def SaysGuiguesUptoCardSaid : Prop := Claim7.holds Tryd.pinned (.plain (OpenSpec.upto saysGuiguesSpec)) saysGuiguesUptoCard

/-- THE SECOND FORM's CARD OF 'breezelaw06.SaysProved'. -/
def saysProvedUptoCard : Claim7 := { stood := { row := saysProvedUptoRow, standIns := [], harness := (true, "31c4bfeba54f81317853f7899b030cbcb0202ef9bf01d99d1dd8958978825777"), looks := false }, kinds := [], alts := [], laidByText := true, laidKinds := [.data, .data], laidTests := true, laidLooks := .later }
def SaysProvedUptoCardSaid : Prop := Claim7.holds Tryd.pinned (.plain (OpenSpec.upto saysProvedSpec)) saysProvedUptoCard

/-- THE SECOND FORM's CARD OF 'breezelaw06.SaysGone'. -/
def saysGoneUptoCard : Claim7 := { stood := { row := saysGoneUptoRow, standIns := [], harness := (true, "31c4bfeba54f81317853f7899b030cbcb0202ef9bf01d99d1dd8958978825777"), looks := false }, kinds := [], alts := [], laidByText := true, laidKinds := [.data, .data], laidTests := true, laidLooks := .later }
def SaysGoneUptoCardSaid : Prop := Claim7.holds Tryd.pinned (.plain (OpenSpec.upto saysGoneSpec)) saysGoneUptoCard

/-- THE SECOND FORM's CARD OF 'breezelaw06.SaysFewest'. -/
def saysFewestUptoCard : Claim7 := { stood := { row := saysFewestUptoRow, standIns := [], harness := (true, "31c4bfeba54f81317853f7899b030cbcb0202ef9bf01d99d1dd8958978825777"), looks := false }, kinds := [], alts := [], laidByText := true, laidKinds := [.data, .data], laidTests := true, laidLooks := .later }
def SaysFewestUptoCardSaid : Prop := Claim7.holds Tryd.pinned (.plain (OpenSpec.upto saysFewestSpec)) saysFewestUptoCard

/-- THE SECOND FORM's CARD OF 'breezelaw06.SaysMore'. -/
def saysMoreUptoCard : Claim7 := { stood := { row := saysMoreUptoRow, standIns := [], harness := (true, "31c4bfeba54f81317853f7899b030cbcb0202ef9bf01d99d1dd8958978825777"), looks := false }, kinds := [], alts := [], laidByText := true, laidKinds := [.data, .data], laidTests := true, laidLooks := .later }
def SaysMoreUptoCardSaid : Prop := Claim7.holds Tryd.pinned (.plain (OpenSpec.upto saysMoreSpec)) saysMoreUptoCard

/-- THE SECOND FORM's CARD OF 'breezelaw06.SaysSpared'. -/
def saysSparedUptoCard : Claim7 := { stood := { row := saysSparedUptoRow, standIns := [], harness := (true, "31c4bfeba54f81317853f7899b030cbcb0202ef9bf01d99d1dd8958978825777"), looks := false }, kinds := [], alts := [], laidByText := true, laidKinds := [.data, .data], laidTests := true, laidLooks := .later }
def SaysSparedUptoCardSaid : Prop := Claim7.holds Tryd.pinned (.plain (OpenSpec.upto saysSparedSpec)) saysSparedUptoCard

/-- THE SECOND FORM's CARD OF 'breezelaw06.SaysNamed'. -/
def saysNamedUptoCard : Claim7 := { stood := { row := saysNamedUptoRow, standIns := [], harness := (true, "31c4bfeba54f81317853f7899b030cbcb0202ef9bf01d99d1dd8958978825777"), looks := false }, kinds := [], alts := [], laidByText := true, laidKinds := [.data, .data], laidTests := true, laidLooks := .later }
def SaysNamedUptoCardSaid : Prop := Claim7.holds Tryd.pinned (.plain (OpenSpec.upto saysNamedSpec)) saysNamedUptoCard
end Rows
end Go.Proofs.YthhfgcejamfinaaDoor
