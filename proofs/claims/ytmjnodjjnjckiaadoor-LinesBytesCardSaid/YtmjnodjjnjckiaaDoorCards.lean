/-
  DERIVED. GIVEN WITH THE SEED: THE CARDS: each row of YtmjnodjjnjckiaaDoorRows.lean that lists a variable, with what it lists TIED to the program's text (the seventh form; the later family's looks); each row that meets fmt, with fmt's text TOLD by the authors' own Lean function (tested against real Go, not proved from fmt's source: count such statements apart). THE CARD IS WHAT COUNTS. Prove the row's statement (the work); the ties are given (YtmjnodjjnjckiaaDoorTie.lean); close each card by the builder's one call (the guide's Derived/Test/ToyasCard.lean, 'card_holds'). Laid BY PROGRAM, IN A SANDBOX (cutbox-door.mjs). By AI agents, Wed Nov 11 2026. No macro, syntax, notation, axiom, sorry.
-/
import Derived.Test.YtmjnodjjnjckiaaDoorRows
import GoSem.ClaimSeven
namespace Go.Proofs.YtmjnodjjnjckiaaDoor
namespace Rows

/-- THE TIED CARD OF 'spandrellaw30.LinesRead'. -/
def linesReadCard : Claim7 := { stood := { row := linesReadRow, standIns := [], harness := (true, "798cea86a655c4309ad2f91c670bf86c4d37c34e0975885c06166cdf3fa9424f"), looks := true }, kinds := [], alts := [], laidByText := true, laidKinds := [.data, .pinned], laidTests := true, laidLooks := .later }
def LinesReadCardSaid : Prop := Claim7.holds Tryd.pinned (.plain (OpenSpec.ofChange linesReadSpec)) linesReadCard

/-- THE TIED CARD OF 'spandrellaw30.LinesWrite'. -/
def linesWriteCard : Claim7 := { stood := { row := linesWriteRow, standIns := [], harness := (true, "798cea86a655c4309ad2f91c670bf86c4d37c34e0975885c06166cdf3fa9424f"), looks := true }, kinds := [], alts := [], laidByText := true, laidKinds := [.data, .pinned], laidTests := true, laidLooks := .later }
def LinesWriteCardSaid : Prop := Claim7.holds Tryd.pinned (.plain (OpenSpec.ofChange linesWriteSpec)) linesWriteCard

/-- THE TIED CARD OF 'spandrellaw30.LinesRound'. -/
def linesRoundCard : Claim7 := { stood := { row := linesRoundRow, standIns := [], harness := (true, "798cea86a655c4309ad2f91c670bf86c4d37c34e0975885c06166cdf3fa9424f"), looks := true }, kinds := [], alts := [], laidByText := true, laidKinds := [.data, .pinned], laidTests := true, laidLooks := .later }
def LinesRoundCardSaid : Prop := Claim7.holds Tryd.pinned (.plain (OpenSpec.ofChange linesRoundSpec)) linesRoundCard

/-- THE TIED CARD OF 'spandrellaw30.LinesParts'. -/
def linesPartsCard : Claim7 := { stood := { row := linesPartsRow, standIns := [], harness := (true, "798cea86a655c4309ad2f91c670bf86c4d37c34e0975885c06166cdf3fa9424f"), looks := true }, kinds := [], alts := [], laidByText := true, laidKinds := [.data, .pinned], laidTests := true, laidLooks := .later }
def LinesPartsCardSaid : Prop := Claim7.holds Tryd.pinned (.plain (OpenSpec.ofChange linesPartsSpec)) linesPartsCard

/-- THE TIED CARD OF 'spandrellaw30.LinesBytes'. -/
def linesBytesCard : Claim7 := { stood := { row := linesBytesRow, standIns := [], harness := (true, "798cea86a655c4309ad2f91c670bf86c4d37c34e0975885c06166cdf3fa9424f"), looks := true }, kinds := [], alts := [], laidByText := true, laidKinds := [.data, .pinned], laidTests := true, laidLooks := .later }
def LinesBytesCardSaid : Prop := Claim7.holds Tryd.pinned (.plain (OpenSpec.ofChange linesBytesSpec)) linesBytesCard

/-- THE SECOND FORM's CARD OF 'spandrellaw30.LinesRead'. -/
def linesReadUptoCard : Claim7 := { stood := { row := linesReadUptoRow, standIns := [], harness := (true, "798cea86a655c4309ad2f91c670bf86c4d37c34e0975885c06166cdf3fa9424f"), looks := true }, kinds := [], alts := [], laidByText := true, laidKinds := [.data, .pinned], laidTests := true, laidLooks := .later }
def LinesReadUptoCardSaid : Prop := Claim7.holds Tryd.pinned (.plain (OpenSpec.upto linesReadSpec)) linesReadUptoCard

/-- THE SECOND FORM's CARD OF 'spandrellaw30.LinesWrite'. -/
def linesWriteUptoCard : Claim7 := { stood := { row := linesWriteUptoRow, standIns := [], harness := (true, "798cea86a655c4309ad2f91c670bf86c4d37c34e0975885c06166cdf3fa9424f"), looks := true }, kinds := [], alts := [], laidByText := true, laidKinds := [.data, .pinned], laidTests := true, laidLooks := .later }
def LinesWriteUptoCardSaid : Prop := Claim7.holds Tryd.pinned (.plain (OpenSpec.upto linesWriteSpec)) linesWriteUptoCard

/-- THE SECOND FORM's CARD OF 'spandrellaw30.LinesRound'. -/
def linesRoundUptoCard : Claim7 := { stood := { row := linesRoundUptoRow, standIns := [], harness := (true, "798cea86a655c4309ad2f91c670bf86c4d37c34e0975885c06166cdf3fa9424f"), looks := true }, kinds := [], alts := [], laidByText := true, laidKinds := [.data, .pinned], laidTests := true, laidLooks := .later }
def LinesRoundUptoCardSaid : Prop := Claim7.holds Tryd.pinned (.plain (OpenSpec.upto linesRoundSpec)) linesRoundUptoCard

/-- THE SECOND FORM's CARD OF 'spandrellaw30.LinesParts'. -/
def linesPartsUptoCard : Claim7 := { stood := { row := linesPartsUptoRow, standIns := [], harness := (true, "798cea86a655c4309ad2f91c670bf86c4d37c34e0975885c06166cdf3fa9424f"), looks := true }, kinds := [], alts := [], laidByText := true, laidKinds := [.data, .pinned], laidTests := true, laidLooks := .later }
def LinesPartsUptoCardSaid : Prop := Claim7.holds Tryd.pinned (.plain (OpenSpec.upto linesPartsSpec)) linesPartsUptoCard

/-- THE SECOND FORM's CARD OF 'spandrellaw30.LinesBytes'. -/
def linesBytesUptoCard : Claim7 := { stood := { row := linesBytesUptoRow, standIns := [], harness := (true, "798cea86a655c4309ad2f91c670bf86c4d37c34e0975885c06166cdf3fa9424f"), looks := true }, kinds := [], alts := [], laidByText := true, laidKinds := [.data, .pinned], laidTests := true, laidLooks := .later }
def LinesBytesUptoCardSaid : Prop := Claim7.holds Tryd.pinned (.plain (OpenSpec.upto linesBytesSpec)) linesBytesUptoCard
end Rows
end Go.Proofs.YtmjnodjjnjckiaaDoor
