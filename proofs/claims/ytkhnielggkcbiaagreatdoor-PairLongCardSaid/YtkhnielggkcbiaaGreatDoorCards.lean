/-
  DERIVED. GIVEN WITH THE SEED: THE CARDS: each row of YtkhnielggkcbiaaGreatDoorRows.lean that lists a variable, with what it lists TIED to the program's text (the seventh form; the later family's looks); each row that meets fmt, with fmt's text TOLD by the authors' own Lean function (tested against real Go, not proved from fmt's source: count such statements apart). THE CARD IS WHAT COUNTS. Prove the row's statement (the work); the ties are given (YtkhnielggkcbiaaGreatDoorTie.lean); close each card by the builder's one call (the guide's Derived/Test/ToyasCard.lean, 'card_holds'). Laid BY PROGRAM, IN A SANDBOX (cutbox-door.mjs). By AI agents, Wed Nov 11 2026. No macro, syntax, notation, axiom, sorry.
-/
import Derived.Test.YtkhnielggkcbiaaGreatDoorRows
import GoSem.ClaimSeven
namespace Go.Proofs.YtkhnielggkcbiaaGreatDoor
namespace Rows

/-- THE TIED CARD OF 'isthmuslaw21.PairLong'. -/
def pairLongCard : Claim7 := { stood := { row := pairLongRow, standIns := [], harness := (true, "f52f38bcb29fce709fcf6e0516b79a0c3f1be3c2e0177a7031bff6e6cdfa47b7"), looks := false }, kinds := [], alts := [], laidByText := true, laidKinds := [.data, .pinned], laidTests := true, laidLooks := .later }
def PairLongCardSaid : Prop := Claim7.holds Tryz.pinned (.plain (OpenSpec.ofChange pairLongSpec)) pairLongCard

/-- THE SECOND FORM's CARD OF 'isthmuslaw21.PairLong'. -/
def pairLongUptoCard : Claim7 := { stood := { row := pairLongUptoRow, standIns := [], harness := (true, "f52f38bcb29fce709fcf6e0516b79a0c3f1be3c2e0177a7031bff6e6cdfa47b7"), looks := false }, kinds := [], alts := [], laidByText := true, laidKinds := [.data, .pinned], laidTests := true, laidLooks := .later }
def PairLongUptoCardSaid : Prop := Claim7.holds Tryz.pinned (.plain (OpenSpec.upto pairLongSpec)) pairLongUptoCard
end Rows
end Go.Proofs.YtkhnielggkcbiaaGreatDoor
