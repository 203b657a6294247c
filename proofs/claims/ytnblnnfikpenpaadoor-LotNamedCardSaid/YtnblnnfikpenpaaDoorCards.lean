/-
  DERIVED. GIVEN WITH THE SEED: THE CARDS: each row of YtnblnnfikpenpaaDoorRows.lean that lists a variable, with what it lists TIED to the program's text (the seventh form; the later family's looks); each row that meets fmt, with fmt's text TOLD by the authors' own Lean function (tested against real Go, not proved from fmt's source: count such statements apart). THE CARD IS WHAT COUNTS. Prove the row's statement (the work); the ties are given (YtnblnnfikpenpaaDoorTie.lean); close each card by the builder's one call (the guide's Derived/Test/ToyasCard.lean, 'card_holds'). Laid BY PROGRAM, IN A SANDBOX (cutbox-door.mjs). By AI agents, Wed Nov 11 2026. No macro, syntax, notation, axiom, sorry.
-/
import Derived.Test.YtnblnnfikpenpaaDoorRows
import GoSem.ClaimSeven
namespace Go.Proofs.YtnblnnfikpenpaaDoor
namespace Rows

/-- THE TIED CARD OF 'breezelaw07.LotLots'. -/
def lotLotsCard : Claim7 := { stood := { row := lotLotsRow, standIns := [], harness := (true, "746549b9ec77ccc1be4f3c7affc87883a08f907b8839c6762797280332c0221a"), looks := false }, kinds := [], alts := [], laidByText := true, laidKinds := [.data, .data], laidTests := true, laidLooks := .later }
def LotLotsCardSaid : Prop := Claim7.holds Tryd.pinned (.plain (OpenSpec.ofChange lotLotsSpec)) lotLotsCard

/-- THE TIED CARD OF 'breezelaw07.LotMost'. -/
def lotMostCard : Claim7 := { stood := { row := lotMostRow, standIns := [], harness := (true, "746549b9ec77ccc1be4f3c7affc87883a08f907b8839c6762797280332c0221a"), looks := false }, kinds := [], alts := [], laidByText := true, laidKinds := [.data, .data], laidTests := true, laidLooks := .later }
def LotMostCardSaid : Prop := Claim7.holds Tryd.pinned (.plain (OpenSpec.ofChange lotMostSpec)) lotMostCard

/-- THE TIED CARD OF 'breezelaw07.LotKinds'. -/
def lotKindsCard : Claim7 := { stood := { row := lotKindsRow, standIns := [], harness := (true, "746549b9ec77ccc1be4f3c7affc87883a08f907b8839c6762797280332c0221a"), looks := false }, kinds := [], alts := [], laidByText := true, laidKinds := [.data, .data], laidTests := true, laidLooks := .later }
def LotKindsCardSaid : Prop := Claim7.holds Tryd.pinned (.plain (OpenSpec.ofChange lotKindsSpec)) lotKindsCard

/-- THE TIED CARD OF 'breezelaw07.LotSums'. -/
def lotSumsCard : Claim7 := { stood := { row := lotSumsRow, standIns := [], harness := (true, "746549b9ec77ccc1be4f3c7affc87883a08f907b8839c6762797280332c0221a"), looks := false }, kinds := [], alts := [], laidByText := true, laidKinds := [.data, .data], laidTests := true, laidLooks := .later }
def LotSumsCardSaid : Prop := Claim7.holds Tryd.pinned (.plain (OpenSpec.ofChange lotSumsSpec)) lotSumsCard

/-- THE TIED CARD OF 'breezelaw07.LotCauchy'. -/
def lotCauchyCard : Claim7 := { stood := { row := lotCauchyRow, standIns := [], harness := (true, "746549b9ec77ccc1be4f3c7affc87883a08f907b8839c6762797280332c0221a"), looks := false }, kinds := [], alts := [], laidByText := true, laidKinds := [.data, .data], laidTests := true, laidLooks := .later }
def LotCauchyCardSaid : Prop := Claim7.holds Tryd.pinned (.plain (OpenSpec.ofChange lotCauchySpec)) lotCauchyCard

/-- THE TIED CARD OF 'breezelaw07.LotOthers'. -/
def lotOthersCard : Claim7 := { stood := { row := lotOthersRow, standIns := [], harness := (true, "746549b9ec77ccc1be4f3c7affc87883a08f907b8839c6762797280332c0221a"), looks := false }, kinds := [], alts := [], laidByText := true, laidKinds := [.data, .data], laidTests := true, laidLooks := .later }
def LotOthersCardSaid : Prop := Claim7.holds Tryd.pinned (.plain (OpenSpec.ofChange lotOthersSpec)) lotOthersCard

/-- THE TIED CARD OF 'breezelaw07.LotKnown'. -/
def lotKnownCard : Claim7 := { stood := { row := lotKnownRow, standIns := [], harness := (true, "746549b9ec77ccc1be4f3c7affc87883a08f907b8839c6762797280332c0221a"), looks := false }, kinds := [], alts := [], laidByText := true, laidKinds := [.data, .data], laidTests := true, laidLooks := .later }
def LotKnownCardSaid : Prop := Claim7.holds Tryd.pinned (.plain (OpenSpec.ofChange lotKnownSpec)) lotKnownCard

/-- THE TIED CARD OF 'breezelaw07.LotShown'. -/
def lotShownCard : Claim7 := { stood := { row := lotShownRow, standIns := [], harness := (true, "746549b9ec77ccc1be4f3c7affc87883a08f907b8839c6762797280332c0221a"), looks := false }, kinds := [], alts := [], laidByText := true, laidKinds := [.data, .data], laidTests := true, laidLooks := .later }
def LotShownCardSaid : Prop := Claim7.holds Tryd.pinned (.plain (OpenSpec.ofChange lotShownSpec)) lotShownCard

/-- THE TIED CARD OF 'breezelaw07.LotNamed'. -/
def lotNamedCard : Claim7 := { stood := { row := lotNamedRow, standIns := [], harness := (true, "746549b9ec77ccc1be4f3c7affc87883a08f907b8839c6762797280332c0221a"), looks := false }, kinds := [], alts := [], laidByText := true, laidKinds := [.data, .data], laidTests := true, laidLooks := .later }
def LotNamedCardSaid : Prop := Claim7.holds Tryd.pinned (.plain (OpenSpec.ofChange lotNamedSpec)) lotNamedCard

/-- THE TIED CARD OF 'breezelaw07.LotZiv'. -/
def lotZivCard : Claim7 := { stood := { row := lotZivRow, standIns := [], harness := (true, "746549b9ec77ccc1be4f3c7affc87883a08f907b8839c6762797280332c0221a"), looks := false }, kinds := [], alts := [], laidByText := true, laidKinds := [.data, .data], laidTests := true, laidLooks := .later }
def LotZivCardSaid : Prop := Claim7.holds Tryd.pinned (.plain (OpenSpec.ofChange lotZivSpec)) lotZivCard

/-- THE TIED CARD OF 'breezelaw07.LotTwo'. -/
def lotTwoCard : Claim7 := { stood := { row := lotTwoRow, standIns := [], harness := (true, "746549b9ec77ccc1be4f3c7affc87883a08f907b8839c6762797280332c0221a"), looks := false }, kinds := [], alts := [], laidByText := true, laidKinds := [.data, .data], laidTests := true, laidLooks := .later }
def LotTwoCardSaid : Prop := Claim7.holds Tryd.pinned (.plain (OpenSpec.ofChange lotTwoSpec)) lotTwoCard

/-- THE TIED CARD OF 'breezelaw07.LotMade'. -/
def lotMadeCard : Claim7 := { stood := { row := lotMadeRow, standIns := [], harness := (true, "746549b9ec77ccc1be4f3c7affc87883a08f907b8839c6762797280332c0221a"), looks := false }, kinds := [], alts := [], laidByText := true, laidKinds := [.data, .data], laidTests := true, laidLooks := .later }
def LotMadeCardSaid : Prop := Claim7.holds Tryd.pinned (.plain (OpenSpec.ofChange lotMadeSpec)) lotMadeCard

/-- THE TIED CARD OF 'breezelaw07.LotSome'. -/
def lotSomeCard : Claim7 := { stood := { row := lotSomeRow, standIns := [], harness := (true, "746549b9ec77ccc1be4f3c7affc87883a08f907b8839c6762797280332c0221a"), looks := false }, kinds := [], alts := [], laidByText := true, laidKinds := [.data, .data], laidTests := true, laidLooks := .later }
def LotSomeCardSaid : Prop := Claim7.holds Tryd.pinned (.plain (OpenSpec.ofChange lotSomeSpec)) lotSomeCard

/-- THE SECOND FORM's CARD OF 'breezelaw07.LotLots'. -/
def lotLotsUptoCard : Claim7 := { stood := { row := lotLotsUptoRow, standIns := [], harness := (true, "746549b9ec77ccc1be4f3c7affc87883a08f907b8839c6762797280332c0221a"), looks := false }, kinds := [], alts := [], laidByText := true, laidKinds := [.data, .data], laidTests := true, laidLooks := .later }
def LotLotsUptoCardSaid : Prop := Claim7.holds Tryd.pinned (.plain (OpenSpec.upto lotLotsSpec)) lotLotsUptoCard

/-- THE SECOND FORM's CARD OF 'breezelaw07.LotMost'. -/
def lotMostUptoCard : Claim7 := { stood := { row := lotMostUptoRow, standIns := [], harness := (true, "746549b9ec77ccc1be4f3c7affc87883a08f907b8839c6762797280332c0221a"), looks := false }, kinds := [], alts := [], laidByText := true, laidKinds := [.data, .data], laidTests := true, laidLooks := .later }
def LotMostUptoCardSaid : Prop := Claim7.holds Tryd.pinned (.plain (OpenSpec.upto lotMostSpec)) lotMostUptoCard

/-- THE SECOND FORM's CARD OF 'breezelaw07.LotKinds'. -/
def lotKindsUptoCard : Claim7 := { stood := { row := lotKindsUptoRow, standIns := [], harness := (true, "746549b9ec77ccc1be4f3c7affc87883a08f907b8839c6762797280332c0221a"), looks := false }, kinds := [], alts := [], laidByText := true, laidKinds := [.data, .data], laidTests := true, laidLooks := .later }
def LotKindsUptoCardSaid : Prop := Claim7.holds Tryd.pinned (.plain (OpenSpec.upto lotKindsSpec)) lotKindsUptoCard

/-- THE SECOND FORM's CARD OF 'breezelaw07.LotSums'. -/
def lotSumsUptoCard : Claim7 := { stood := { row := lotSumsUptoRow, standIns := [], harness := (true, "746549b9ec77ccc1be4f3c7affc87883a08f907b8839c6762797280332c0221a"), looks := false }, kinds := [], alts := [], laidByText := true, laidKinds := [.data, .data], laidTests := true, laidLooks := .later }
def LotSumsUptoCardSaid : Prop := Claim7.holds Tryd.pinned (.plain (OpenSpec.upto lotSumsSpec)) lotSumsUptoCard

/-- THE SECOND FORM's CARD OF 'breezelaw07.LotCauchy'. -/
def lotCauchyUptoCard : Claim7 := { stood := { row := lotCauchyUptoRow, standIns := [], harness := (true, "746549b9ec77ccc1be4f3c7affc87883a08f907b8839c6762797280332c0221a"), looks := false }, kinds := [], alts := [], laidByText := true, laidKinds := [.data, .data], laidTests := true, laidLooks := .later }
def LotCauchyUptoCardSaid : Prop := Claim7.holds Tryd.pinned (.plain (OpenSpec.upto lotCauchySpec)) lotCauchyUptoCard

/-- THE SECOND FORM's CARD OF 'breezelaw07.LotOthers'. -/
def lotOthersUptoCard : Claim7 := { stood := { row := lotOthersUptoRow, standIns := [], harness := (true, "746549b9ec77ccc1be4f3c7affc87883a08f907b8839c6762797280332c0221a"), looks := false }, kinds := [], alts := [], laidByText := true, laidKinds := [.data, .data], laidTests := true, laidLooks := .later }
def LotOthersUptoCardSaid : Prop := Claim7.holds Tryd.pinned (.plain (OpenSpec.upto lotOthersSpec)) lotOthersUptoCard

/-- THE SECOND FORM's CARD OF 'breezelaw07.LotKnown'. -/
def lotKnownUptoCard : Claim7 := { stood := { row := lotKnownUptoRow, standIns := [], harness := (true, "746549b9ec77ccc1be4f3c7affc87883a08f907b8839c6762797280332c0221a"), looks := false }, kinds := [], alts := [], laidByText := true, laidKinds := [.data, .data], laidTests := true, laidLooks := .later }
def LotKnownUptoCardSaid : Prop := Claim7.holds Tryd.pinned (.plain (OpenSpec.upto lotKnownSpec)) lotKnownUptoCard

/-- THE SECOND FORM's CARD OF 'breezelaw07.LotShown'. -/
def lotShownUptoCard : Claim7 := { stood := { row := lotShownUptoRow, standIns := [], harness := (true, "746549b9ec77ccc1be4f3c7affc87883a08f907b8839c6762797280332c0221a"), looks := false }, kinds := [], alts := [], laidByText := true, laidKinds := [.data, .data], laidTests := true, laidLooks := .later }
def LotShownUptoCardSaid : Prop := Claim7.holds Tryd.pinned (.plain (OpenSpec.upto lotShownSpec)) lotShownUptoCard

/-- THE SECOND FORM's CARD OF 'breezelaw07.LotNamed'. -/
def lotNamedUptoCard : Claim7 := { stood := { row := lotNamedUptoRow, standIns := [], harness := (true, "746549b9ec77ccc1be4f3c7affc87883a08f907b8839c6762797280332c0221a"), looks := false }, kinds := [], alts := [], laidByText := true, laidKinds := [.data, .data], laidTests := true, laidLooks := .later }
def LotNamedUptoCardSaid : Prop := Claim7.holds Tryd.pinned (.plain (OpenSpec.upto lotNamedSpec)) lotNamedUptoCard

/-- THE SECOND FORM's CARD OF 'breezelaw07.LotZiv'. -/
def lotZivUptoCard : Claim7 := { stood := { row := lotZivUptoRow, standIns := [], harness := (true, "746549b9ec77ccc1be4f3c7affc87883a08f907b8839c6762797280332c0221a"), looks := false }, kinds := [], alts := [], laidByText := true, laidKinds := [.data, .data], laidTests := true, laidLooks := .later }
def LotZivUptoCardSaid : Prop := Claim7.holds Tryd.pinned (.plain (OpenSpec.upto lotZivSpec)) lotZivUptoCard

/-- THE SECOND FORM's CARD OF 'breezelaw07.LotTwo'. -/
def lotTwoUptoCard : Claim7 := { stood := { row := lotTwoUptoRow, standIns := [], harness := (true, "746549b9ec77ccc1be4f3c7affc87883a08f907b8839c6762797280332c0221a"), looks := false }, kinds := [], alts := [], laidByText := true, laidKinds := [.data, .data], laidTests := true, laidLooks := .later }
def LotTwoUptoCardSaid : Prop := Claim7.holds Tryd.pinned (.plain (OpenSpec.upto lotTwoSpec)) lotTwoUptoCard

/-- THE SECOND FORM's CARD OF 'breezelaw07.LotMade'. -/
def lotMadeUptoCard : Claim7 := { stood := { row := lotMadeUptoRow, standIns := [], harness := (true, "746549b9ec77ccc1be4f3c7affc87883a08f907b8839c6762797280332c0221a"), looks := false }, kinds := [], alts := [], laidByText := true, laidKinds := [.data, .data], laidTests := true, laidLooks := .later }
def LotMadeUptoCardSaid : Prop := Claim7.holds Tryd.pinned (.plain (OpenSpec.upto lotMadeSpec)) lotMadeUptoCard

/-- THE SECOND FORM's CARD OF 'breezelaw07.LotSome'. -/
def lotSomeUptoCard : Claim7 := { stood := { row := lotSomeUptoRow, standIns := [], harness := (true, "746549b9ec77ccc1be4f3c7affc87883a08f907b8839c6762797280332c0221a"), looks := false }, kinds := [], alts := [], laidByText := true, laidKinds := [.data, .data], laidTests := true, laidLooks := .later }
def LotSomeUptoCardSaid : Prop := Claim7.holds Tryd.pinned (.plain (OpenSpec.upto lotSomeSpec)) lotSomeUptoCard
end Rows
end Go.Proofs.YtnblnnfikpenpaaDoor
