/-
  DERIVED. GIVEN WITH THE SEED: THE CARDS: each row of YtfabolagjlhdpaaGreatDoorRows.lean that lists a variable, with what it lists TIED to the program's text (the seventh form; the later family's looks); each row that meets fmt, with fmt's text TOLD by the authors' own Lean function (tested against real Go, not proved from fmt's source: count such statements apart). THE CARD IS WHAT COUNTS. Prove the row's statement (the work); the ties are given (YtfabolagjlhdpaaGreatDoorTie.lean); close each card by the builder's one call (the guide's Derived/Test/ToyasCard.lean, 'card_holds'). Laid BY PROGRAM, IN A SANDBOX (cutbox-door.mjs). By AI agents, Wed Nov 11 2026. No macro, syntax, notation, axiom, sorry.
-/
import Derived.Test.YtfabolagjlhdpaaGreatDoorRows
import GoSem.ClaimSeven
namespace Go.Proofs.YtfabolagjlhdpaaGreatDoor
namespace Rows

/-- THE TIED CARD OF 'isthmuslaw19.EndNone'. -/
def endNoneCard : Claim7 := { stood := { row := endNoneRow, standIns := [], harness := (true, "c32dfad39cd096732256a5caab40095c55ea432fc7ee0fa43102b7bcc2b00637"), looks := false }, kinds := [], alts := [], laidByText := true, laidKinds := [.data, .pinned], laidTests := true, laidLooks := .later }
def EndNoneCardSaid : Prop := Claim7.holds Tryz.pinned (.plain (OpenSpec.ofChange endNoneSpec)) endNoneCard

/-- THE SECOND FORM's CARD OF 'isthmuslaw19.EndNone'. -/
def endNoneUptoCard : Claim7 := { stood := { row := endNoneUptoRow, standIns := [], harness := (true, "c32dfad39cd096732256a5caab40095c55ea432fc7ee0fa43102b7bcc2b00637"), looks := false }, kinds := [], alts := [], laidByText := true, laidKinds := [.data, .pinned], laidTests := true, laidLooks := .later }
def EndNoneUptoCardSaid : Prop := Claim7.holds Tryz.pinned (.plain (OpenSpec.upto endNoneSpec)) endNoneUptoCard
end Rows
end Go.Proofs.YtfabolagjlhdpaaGreatDoor
