/-
  DERIVED. GIVEN WITH THE SEED: THE CARDS: each row of YtigmdccgolaocaaGreatDoorRows.lean that lists a variable, with what it lists TIED to the program's text (the seventh form; the later family's looks); each row that meets fmt, with fmt's text TOLD by the authors' own Lean function (tested against real Go, not proved from fmt's source: count such statements apart). THE CARD IS WHAT COUNTS. Prove the row's statement (the work); the ties are given (YtigmdccgolaocaaGreatDoorTie.lean); close each card by the builder's one call (the guide's Derived/Test/ToyasCard.lean, 'card_holds'). Laid BY PROGRAM, IN A SANDBOX (cutbox-door.mjs). By AI agents, Wed Nov 11 2026. No macro, syntax, notation, axiom, sorry.
-/
import Derived.Test.YtigmdccgolaocaaGreatDoorRows
import GoSem.ClaimSeven
namespace Go.Proofs.YtigmdccgolaocaaGreatDoor
namespace Rows

/-- THE TIED CARD OF 'isthmuslaw21.PairLong'. -/
def pairLongCard : Claim7 := { stood := { row := pairLongRow, standIns := [], harness := (true, "d4b38ed3db16697d9fa2f6391eaac61deb6d494e46fc41ebe0e7e2f6616083eb"), looks := false }, kinds := [], alts := [], laidByText := true, laidKinds := [.data, .pinned], laidTests := true, laidLooks := .later }
def PairLongCardSaid : Prop := Claim7.holds Tryz.pinned (.plain (OpenSpec.ofChange pairLongSpec)) pairLongCard

/-- THE TIED CARD OF 'isthmuslaw21.PairNone'. -/
def pairNoneCard : Claim7 := { stood := { row := pairNoneRow, standIns := [], harness := (true, "d4b38ed3db16697d9fa2f6391eaac61deb6d494e46fc41ebe0e7e2f6616083eb"), looks := false }, kinds := [], alts := [], laidByText := true, laidKinds := [.data, .pinned], laidTests := true, laidLooks := .later }
def PairNoneCardSaid : Prop := Claim7.holds Tryz.pinned (.plain (OpenSpec.ofChange pairNoneSpec)) pairNoneCard

/-- THE SECOND FORM's CARD OF 'isthmuslaw21.PairLong'. -/
def pairLongUptoCard : Claim7 := { stood := { row := pairLongUptoRow, standIns := [], harness := (true, "d4b38ed3db16697d9fa2f6391eaac61deb6d494e46fc41ebe0e7e2f6616083eb"), looks := false }, kinds := [], alts := [], laidByText := true, laidKinds := [.data, .pinned], laidTests := true, laidLooks := .later }
def PairLongUptoCardSaid : Prop := Claim7.holds Tryz.pinned (.plain (OpenSpec.upto pairLongSpec)) pairLongUptoCard

/-- THE SECOND FORM's CARD OF 'isthmuslaw21.PairNone'. -/
def pairNoneUptoCard : Claim7 := { stood := { row := pairNoneUptoRow, standIns := [], harness := (true, "d4b38ed3db16697d9fa2f6391eaac61deb6d494e46fc41ebe0e7e2f6616083eb"), looks := false }, kinds := [], alts := [], laidByText := true, laidKinds := [.data, .pinned], laidTests := true, laidLooks := .later }
def PairNoneUptoCardSaid : Prop := Claim7.holds Tryz.pinned (.plain (OpenSpec.upto pairNoneSpec)) pairNoneUptoCard
end Rows
end Go.Proofs.YtigmdccgolaocaaGreatDoor
