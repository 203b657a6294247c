/-
  DERIVED. GIVEN WITH THE SEED: THE CARDS: each row of YthihkaohgencbaaDoorRows.lean that lists a variable, with what it lists TIED to the program's text (the seventh form; the later family's looks); each row that meets fmt, with fmt's text TOLD by the authors' own Lean function (tested against real Go, not proved from fmt's source: count such statements apart). THE CARD IS WHAT COUNTS. Prove the row's statement (the work); the ties are given (YthihkaohgencbaaDoorTie.lean); close each card by the builder's one call (the guide's Derived/Test/ToyasCard.lean, 'card_holds'). Laid BY PROGRAM, IN A SANDBOX (cutbox-door.mjs). By AI agents, Wed Nov 11 2026. No macro, syntax, notation, axiom, sorry.
-/
import Derived.Test.YthihkaohgencbaaDoorRows
import GoSem.ClaimSeven
namespace Go.Proofs.YthihkaohgencbaaDoor
namespace Rows

/-- THE TIED CARD OF 'breezelaw02.RoundChecks'. -/
def roundChecksCard : Claim7 := { stood := { row := roundChecksRow, standIns := [], harness := (true, "23da3688b4dba175c5dcf9950aab865b5a6d84199e65c8fe6f34649c30afb55c"), looks := false }, kinds := [], alts := [], laidByText := true, laidKinds := [.data, .data], laidTests := true, laidLooks := .later }
def RoundChecksCardSaid : Prop := Claim7.holds Tryd.pinned (.plain (OpenSpec.ofChange roundChecksSpec)) roundChecksCard

/-- THE TIED CARD OF 'breezelaw02.RoundFewest'. -/
def roundFewestCard : Claim7 := { stood := { row := roundFewestRow, standIns := [], harness := (true, "23da3688b4dba175c5dcf9950aab865b5a6d84199e65c8fe6f34649c30afb55c"), looks := false }, kinds := [], alts := [], laidByText := true, laidKinds := [.data, .data], laidTests := true, laidLooks := .later }
def RoundFewestCardSaid : Prop := Claim7.holds Tryd.pinned (.plain (OpenSpec.ofChange roundFewestSpec)) roundFewestCard

/-- THE TIED CARD OF 'breezelaw02.RoundRounds'. -/
def roundRoundsCard : Claim7 := { stood := { row := roundRoundsRow, standIns := [], harness := (true, "23da3688b4dba175c5dcf9950aab865b5a6d84199e65c8fe6f34649c30afb55c"), looks := false }, kinds := [], alts := [], laidByText := true, laidKinds := [.data, .data], laidTests := true, laidLooks := .later }
def RoundRoundsCardSaid : Prop := Claim7.holds Tryd.pinned (.plain (OpenSpec.ofChange roundRoundsSpec)) roundRoundsCard

/-- THE TIED CARD OF 'breezelaw02.RoundCuts'. -/
def roundCutsCard : Claim7 := { stood := { row := roundCutsRow, standIns := [], harness := (true, "23da3688b4dba175c5dcf9950aab865b5a6d84199e65c8fe6f34649c30afb55c"), looks := false }, kinds := [], alts := [], laidByText := true, laidKinds := [.data, .data], laidTests := true, laidLooks := .later }
def RoundCutsCardSaid : Prop := Claim7.holds Tryd.pinned (.plain (OpenSpec.ofChange roundCutsSpec)) roundCutsCard

/-- THE TIED CARD OF 'breezelaw02.RoundSeymour'. -/
def roundSeymourCard : Claim7 := { stood := { row := roundSeymourRow, standIns := [], harness := (true, "23da3688b4dba175c5dcf9950aab865b5a6d84199e65c8fe6f34649c30afb55c"), looks := false }, kinds := [], alts := [], laidByText := true, laidKinds := [.data, .data], laidTests := true, laidLooks := .later }
def RoundSeymourCardSaid : Prop := Claim7.holds Tryd.pinned (.plain (OpenSpec.ofChange roundSeymourSpec)) roundSeymourCard

/-- THE TIED CARD OF 'breezelaw02.RoundEnough'. -/
def roundEnoughCard : Claim7 := { stood := { row := roundEnoughRow, standIns := [], harness := (true, "23da3688b4dba175c5dcf9950aab865b5a6d84199e65c8fe6f34649c30afb55c"), looks := false }, kinds := [], alts := [], laidByText := true, laidKinds := [.data, .data], laidTests := true, laidLooks := .later }
def RoundEnoughCardSaid : Prop := Claim7.holds Tryd.pinned (.plain (OpenSpec.ofChange roundEnoughSpec)) roundEnoughCard

/-- THE TIED CARD OF 'breezelaw02.RoundCounted'. -/
def roundCountedCard : Claim7 := { stood := { row := roundCountedRow, standIns := [], harness := (true, "23da3688b4dba175c5dcf9950aab865b5a6d84199e65c8fe6f34649c30afb55c"), looks := false }, kinds := [], alts := [], laidByText := true, laidKinds := [.data, .data], laidTests := true, laidLooks := .later }
def RoundCountedCardSaid : Prop := Claim7.holds Tryd.pinned (.plain (OpenSpec.ofChange roundCountedSpec)) roundCountedCard

/-- THE TIED CARD OF 'breezelaw02.RoundSides'. -/
def roundSidesCard : Claim7 := { stood := { row := roundSidesRow, standIns := [], harness := (true, "23da3688b4dba175c5dcf9950aab865b5a6d84199e65c8fe6f34649c30afb55c"), looks := false }, kinds := [], alts := [], laidByText := true, laidKinds := [.data, .data], laidTests := true, laidLooks := .later }
def RoundSidesCardSaid : Prop := Claim7.holds Tryd.pinned (.plain (OpenSpec.ofChange roundSidesSpec)) roundSidesCard

/-- THE TIED CARD OF 'breezelaw02.RoundKnown'. -/
def roundKnownCard : Claim7 := { stood := { row := roundKnownRow, standIns := [], harness := (true, "23da3688b4dba175c5dcf9950aab865b5a6d84199e65c8fe6f34649c30afb55c"), looks := false }, kinds := [], alts := [], laidByText := true, laidKinds := [.data, .data], laidTests := true, laidLooks := .later }
def RoundKnownCardSaid : Prop := Claim7.holds Tryd.pinned (.plain (OpenSpec.ofChange roundKnownSpec)) roundKnownCard

/-- THE TIED CARD OF 'breezelaw02.RoundMore'. -/
def roundMoreCard : Claim7 := { stood := { row := roundMoreRow, standIns := [], harness := (true, "23da3688b4dba175c5dcf9950aab865b5a6d84199e65c8fe6f34649c30afb55c"), looks := false }, kinds := [], alts := [], laidByText := true, laidKinds := [.data, .data], laidTests := true, laidLooks := .later }
def RoundMoreCardSaid : Prop := Claim7.holds Tryd.pinned (.plain (OpenSpec.ofChange roundMoreSpec)) roundMoreCard

/-- THE TIED CARD OF 'breezelaw02.RoundNamed'. -/
def roundNamedCard : Claim7 := { stood := { row := roundNamedRow, standIns := [], harness := (true, "23da3688b4dba175c5dcf9950aab865b5a6d84199e65c8fe6f34649c30afb55c"), looks := false }, kinds := [], alts := [], laidByText := true, laidKinds := [.data, .data], laidTests := true, laidLooks := .later }
def RoundNamedCardSaid : Prop := Claim7.holds Tryd.pinned (.plain (OpenSpec.ofChange roundNamedSpec)) roundNamedCard

/-- THE TIED CARD OF 'breezelaw02.RoundGone'. -/
def roundGoneCard : Claim7 := { stood := { row := roundGoneRow, standIns := [], harness := (true, "23da3688b4dba175c5dcf9950aab865b5a6d84199e65c8fe6f34649c30afb55c"), looks := false }, kinds := [], alts := [], laidByText := true, laidKinds := [.data, .data], laidTests := true, laidLooks := .later }
def RoundGoneCardSaid : Prop := Claim7.holds Tryd.pinned (.plain (OpenSpec.ofChange roundGoneSpec)) roundGoneCard

/-- THE SECOND FORM's CARD OF 'breezelaw02.RoundChecks'. -/
def roundChecksUptoCard : Claim7 := { stood := { row := roundChecksUptoRow, standIns := [], harness := (true, "23da3688b4dba175c5dcf9950aab865b5a6d84199e65c8fe6f34649c30afb55c"), looks := false }, kinds := [], alts := [], laidByText := true, laidKinds := [.data, .data], laidTests := true, laidLooks := .later }
def RoundChecksUptoCardSaid : Prop := Claim7.holds Tryd.pinned (.plain (OpenSpec.upto roundChecksSpec)) roundChecksUptoCard

/-- THE SECOND FORM's CARD OF 'breezelaw02.RoundFewest'. -/
def roundFewestUptoCard : Claim7 := { stood := { row := roundFewestUptoRow, standIns := [], harness := (true, "23da3688b4dba175c5dcf9950aab865b5a6d84199e65c8fe6f34649c30afb55c"), looks := false }, kinds := [], alts := [], laidByText := true, laidKinds := [.data, .data], laidTests := true, laidLooks := .later }
def RoundFewestUptoCardSaid : Prop := Claim7.holds Tryd.pinned (.plain (OpenSpec.upto roundFewestSpec)) roundFewestUptoCard

/-- THE SECOND FORM's CARD OF 'breezelaw02.RoundRounds'. -/
def roundRoundsUptoCard : Claim7 := { stood := { row := roundRoundsUptoRow, standIns := [], harness := (true, "23da3688b4dba175c5dcf9950aab865b5a6d84199e65c8fe6f34649c30afb55c"), looks := false }, kinds := [], alts := [], laidByText := true, laidKinds := [.data, .data], laidTests := true, laidLooks := .later }
def RoundRoundsUptoCardSaid : Prop := Claim7.holds Tryd.pinned (.plain (OpenSpec.upto roundRoundsSpec)) roundRoundsUptoCard

/-- THE SECOND FORM's CARD OF 'breezelaw02.RoundCuts'. -/
def roundCutsUptoCard : Claim7 := { stood := { row := roundCutsUptoRow, standIns := [], harness := (true, "23da3688b4dba175c5dcf9950aab865b5a6d84199e65c8fe6f34649c30afb55c"), looks := false }, kinds := [], alts := [], laidByText := true, laidKinds := [.data, .data], laidTests := true, laidLooks := .later }
def RoundCutsUptoCardSaid : Prop := Claim7.holds Tryd.pinned (.plain (OpenSpec.upto roundCutsSpec)) roundCutsUptoCard

/-- THE SECOND FORM's CARD OF 'breezelaw02.RoundSeymour'. -/
def roundSeymourUptoCard : Claim7 := { stood := { row := roundSeymourUptoRow, standIns := [], harness := (true, "23da3688b4dba175c5dcf9950aab865b5a6d84199e65c8fe6f34649c30afb55c"), looks := false }, kinds := [], alts := [], laidByText := true, laidKinds := [.data, .data], laidTests := true, laidLooks := .later }
def RoundSeymourUptoCardSaid : Prop := Claim7.holds Tryd.pinned (.plain (OpenSpec.upto roundSeymourSpec)) roundSeymourUptoCard

/-- THE SECOND FORM's CARD OF 'breezelaw02.RoundEnough'. -/
def roundEnoughUptoCard : Claim7 := { stood := { row := roundEnoughUptoRow, standIns := [], harness := (true, "23da3688b4dba175c5dcf9950aab865b5a6d84199e65c8fe6f34649c30afb55c"), looks := false }, kinds := [], alts := [], laidByText := true, laidKinds := [.data, .data], laidTests := true, laidLooks := .later }
def RoundEnoughUptoCardSaid : Prop := Claim7.holds Tryd.pinned (.plain (OpenSpec.upto roundEnoughSpec)) roundEnoughUptoCard

/-- THE SECOND FORM's CARD OF 'breezelaw02.RoundCounted'. -/
def roundCountedUptoCard : Claim7 := { stood := { row := roundCountedUptoRow, standIns := [], harness := (true, "23da3688b4dba175c5dcf9950aab865b5a6d84199e65c8fe6f34649c30afb55c"), looks := false }, kinds := [], alts := [], laidByText := true, laidKinds := [.data, .data], laidTests := true, laidLooks := .later }
def RoundCountedUptoCardSaid : Prop := Claim7.holds Tryd.pinned (.plain (OpenSpec.upto roundCountedSpec)) roundCountedUptoCard

/-- THE SECOND FORM's CARD OF 'breezelaw02.RoundSides'. -/
def roundSidesUptoCard : Claim7 := { stood := { row := roundSidesUptoRow, standIns := [], harness := (true, "23da3688b4dba175c5dcf9950aab865b5a6d84199e65c8fe6f34649c30afb55c"), looks := false }, kinds := [], alts := [], laidByText := true, laidKinds := [.data, .data], laidTests := true, laidLooks := .later }
def RoundSidesUptoCardSaid : Prop := Claim7.holds Tryd.pinned (.plain (OpenSpec.upto roundSidesSpec)) roundSidesUptoCard

/-- THE SECOND FORM's CARD OF 'breezelaw02.RoundKnown'. -/
def roundKnownUptoCard : Claim7 := { stood := { row := roundKnownUptoRow, standIns := [], harness := (true, "23da3688b4dba175c5dcf9950aab865b5a6d84199e65c8fe6f34649c30afb55c"), looks := false }, kinds := [], alts := [], laidByText := true, laidKinds := [.data, .data], laidTests := true, laidLooks := .later }
def RoundKnownUptoCardSaid : Prop := Claim7.holds Tryd.pinned (.plain (OpenSpec.upto roundKnownSpec)) roundKnownUptoCard

/-- THE SECOND FORM's CARD OF 'breezelaw02.RoundMore'. -/
def roundMoreUptoCard : Claim7 := { stood := { row := roundMoreUptoRow, standIns := [], harness := (true, "23da3688b4dba175c5dcf9950aab865b5a6d84199e65c8fe6f34649c30afb55c"), looks := false }, kinds := [], alts := [], laidByText := true, laidKinds := [.data, .data], laidTests := true, laidLooks := .later }
def RoundMoreUptoCardSaid : Prop := Claim7.holds Tryd.pinned (.plain (OpenSpec.upto roundMoreSpec)) roundMoreUptoCard

/-- THE SECOND FORM's CARD OF 'breezelaw02.RoundNamed'. -/
def roundNamedUptoCard : Claim7 := { stood := { row := roundNamedUptoRow, standIns := [], harness := (true, "23da3688b4dba175c5dcf9950aab865b5a6d84199e65c8fe6f34649c30afb55c"), looks := false }, kinds := [], alts := [], laidByText := true, laidKinds := [.data, .data], laidTests := true, laidLooks := .later }
def RoundNamedUptoCardSaid : Prop := Claim7.holds Tryd.pinned (.plain (OpenSpec.upto roundNamedSpec)) roundNamedUptoCard

/-- THE SECOND FORM's CARD OF 'breezelaw02.RoundGone'. -/
def roundGoneUptoCard : Claim7 := { stood := { row := roundGoneUptoRow, standIns := [], harness := (true, "23da3688b4dba175c5dcf9950aab865b5a6d84199e65c8fe6f34649c30afb55c"), looks := false }, kinds := [], alts := [], laidByText := true, laidKinds := [.data, .data], laidTests := true, laidLooks := .later }
def RoundGoneUptoCardSaid : Prop := Claim7.holds Tryd.pinned (.plain (OpenSpec.upto roundGoneSpec)) roundGoneUptoCard
end Rows
end Go.Proofs.YthihkaohgencbaaDoor
