/-
  DERIVED. GIVEN WITH THE SEED: THE CARDS: each row of YtibmhhdgcbaofaaDoorRows.lean that lists a variable, with what it lists TIED to the program's text (the seventh form; the later family's looks); each row that meets fmt, with fmt's text TOLD by the authors' own Lean function (tested against real Go, not proved from fmt's source: count such statements apart). THE CARD IS WHAT COUNTS. Prove the row's statement (the work); the ties are given (YtibmhhdgcbaofaaDoorTie.lean); close each card by the builder's one call (the guide's Derived/Test/ToyasCard.lean, 'card_holds'). Laid BY PROGRAM, IN A SANDBOX (cutbox-door.mjs). By AI agents, Wed Nov 11 2026. No macro, syntax, notation, axiom, sorry.
-/
import Derived.Test.YtibmhhdgcbaofaaDoorRows
import GoSem.ClaimSeven
namespace Go.Proofs.YtibmhhdgcbaofaaDoor
namespace Rows

/-- THE TIED CARD OF 'isthmuslaw18.AskAll'. -/
def askAllCard : Claim7 := { stood := { row := askAllRow, standIns := [], harness := (true, "793654ce95a80da5d0b2c4ae0dfd676a53b73247a7432fb4a6a56d51b40db6dd"), looks := false }, kinds := [], alts := [], laidByText := true, laidKinds := [.data, .pinned], laidTests := true, laidLooks := .later }
def AskAllCardSaid : Prop := Claim7.holds Tryd.pinned (.plain (OpenSpec.ofChange askAllSpec)) askAllCard

/-- THE TIED CARD OF 'isthmuslaw18.AskBack'. -/
def askBackCard : Claim7 := { stood := { row := askBackRow, standIns := [], harness := (true, "793654ce95a80da5d0b2c4ae0dfd676a53b73247a7432fb4a6a56d51b40db6dd"), looks := false }, kinds := [], alts := [], laidByText := true, laidKinds := [.data, .pinned], laidTests := true, laidLooks := .later }
def AskBackCardSaid : Prop := Claim7.holds Tryd.pinned (.plain (OpenSpec.ofChange askBackSpec)) askBackCard

/-- THE TIED CARD OF 'isthmuslaw18.AskYes'. -/
def askYesCard : Claim7 := { stood := { row := askYesRow, standIns := [], harness := (true, "793654ce95a80da5d0b2c4ae0dfd676a53b73247a7432fb4a6a56d51b40db6dd"), looks := false }, kinds := [], alts := [], laidByText := true, laidKinds := [.data, .pinned], laidTests := true, laidLooks := .later }
def AskYesCardSaid : Prop := Claim7.holds Tryd.pinned (.plain (OpenSpec.ofChange askYesSpec)) askYesCard

/-- THE TIED CARD OF 'isthmuslaw18.AskLines'. -/
def askLinesCard : Claim7 := { stood := { row := askLinesRow, standIns := [], harness := (true, "793654ce95a80da5d0b2c4ae0dfd676a53b73247a7432fb4a6a56d51b40db6dd"), looks := false }, kinds := [], alts := [], laidByText := true, laidKinds := [.data, .pinned], laidTests := true, laidLooks := .later }
def AskLinesCardSaid : Prop := Claim7.holds Tryd.pinned (.plain (OpenSpec.ofChange askLinesSpec)) askLinesCard

/-- THE TIED CARD OF 'isthmuslaw18.AskBase'. -/
def askBaseCard : Claim7 := { stood := { row := askBaseRow, standIns := [], harness := (true, "793654ce95a80da5d0b2c4ae0dfd676a53b73247a7432fb4a6a56d51b40db6dd"), looks := false }, kinds := [], alts := [], laidByText := true, laidKinds := [.data, .pinned], laidTests := true, laidLooks := .later }
def AskBaseCardSaid : Prop := Claim7.holds Tryd.pinned (.plain (OpenSpec.ofChange askBaseSpec)) askBaseCard

/-- THE SECOND FORM's CARD OF 'isthmuslaw18.AskAll'. -/
def askAllUptoCard : Claim7 := { stood := { row := askAllUptoRow, standIns := [], harness := (true, "793654ce95a80da5d0b2c4ae0dfd676a53b73247a7432fb4a6a56d51b40db6dd"), looks := false }, kinds := [], alts := [], laidByText := true, laidKinds := [.data, .pinned], laidTests := true, laidLooks := .later }
def AskAllUptoCardSaid : Prop := Claim7.holds Tryd.pinned (.plain (OpenSpec.upto askAllSpec)) askAllUptoCard

/-- THE SECOND FORM's CARD OF 'isthmuslaw18.AskBack'. -/
def askBackUptoCard : Claim7 := { stood := { row := askBackUptoRow, standIns := [], harness := (true, "793654ce95a80da5d0b2c4ae0dfd676a53b73247a7432fb4a6a56d51b40db6dd"), looks := false }, kinds := [], alts := [], laidByText := true, laidKinds := [.data, .pinned], laidTests := true, laidLooks := .later }
def AskBackUptoCardSaid : Prop := Claim7.holds Tryd.pinned (.plain (OpenSpec.upto askBackSpec)) askBackUptoCard

/-- THE SECOND FORM's CARD OF 'isthmuslaw18.AskYes'. -/
def askYesUptoCard : Claim7 := { stood := { row := askYesUptoRow, standIns := [], harness := (true, "793654ce95a80da5d0b2c4ae0dfd676a53b73247a7432fb4a6a56d51b40db6dd"), looks := false }, kinds := [], alts := [], laidByText := true, laidKinds := [.data, .pinned], laidTests := true, laidLooks := .later }
def AskYesUptoCardSaid : Prop := Claim7.holds Tryd.pinned (.plain (OpenSpec.upto askYesSpec)) askYesUptoCard

/-- THE SECOND FORM's CARD OF 'isthmuslaw18.AskLines'. -/
def askLinesUptoCard : Claim7 := { stood := { row := askLinesUptoRow, standIns := [], harness := (true, "793654ce95a80da5d0b2c4ae0dfd676a53b73247a7432fb4a6a56d51b40db6dd"), looks := false }, kinds := [], alts := [], laidByText := true, laidKinds := [.data, .pinned], laidTests := true, laidLooks := .later }
def AskLinesUptoCardSaid : Prop := Claim7.holds Tryd.pinned (.plain (OpenSpec.upto askLinesSpec)) askLinesUptoCard

/-- THE SECOND FORM's CARD OF 'isthmuslaw18.AskBase'. -/
def askBaseUptoCard : Claim7 := { stood := { row := askBaseUptoRow, standIns := [], harness := (true, "793654ce95a80da5d0b2c4ae0dfd676a53b73247a7432fb4a6a56d51b40db6dd"), looks := false }, kinds := [], alts := [], laidByText := true, laidKinds := [.data, .pinned], laidTests := true, laidLooks := .later }
def AskBaseUptoCardSaid : Prop := Claim7.holds Tryd.pinned (.plain (OpenSpec.upto askBaseSpec)) askBaseUptoCard
end Rows
end Go.Proofs.YtibmhhdgcbaofaaDoor
