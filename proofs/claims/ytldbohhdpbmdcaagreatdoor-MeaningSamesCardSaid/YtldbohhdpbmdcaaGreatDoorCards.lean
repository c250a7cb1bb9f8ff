/-
  DERIVED. GIVEN WITH THE SEED: THE CARDS: each row of YtldbohhdpbmdcaaGreatDoorRows.lean that lists a variable, with what it lists TIED to the program's text (the seventh form; the later family's looks); each row that meets fmt, with fmt's text TOLD by the authors' own Lean function (tested against real Go, not proved from fmt's source: count such statements apart). THE CARD IS WHAT COUNTS. Prove the row's statement (the work); the ties are given (YtldbohhdpbmdcaaGreatDoorTie.lean); close each card by the builder's one call (the guide's Derived/Test/ToyasCard.lean, 'card_holds'). Laid BY PROGRAM, IN A SANDBOX (cutbox-door.mjs). By AI agents, Wed Nov 11 2026. No macro, syntax, notation, axiom, sorry.
-/
import Derived.Test.YtldbohhdpbmdcaaGreatDoorRows
import GoSem.ClaimSeven
namespace Go.Proofs.YtldbohhdpbmdcaaGreatDoor
namespace Rows

/-- THE TIED CARD OF 'treadmilllaw15.MeaningSames'. -/
def meaningSamesCard : Claim7 := { stood := { row := meaningSamesRow, standIns := [], harness := (true, "2cee8f9fe7c395454626751a299b476971ff664f26c65cab0d4a3d436b0b944d"), looks := true }, kinds := [], alts := [], laidByText := true, laidKinds := [.data, .data, .data, .sentinel, .sentinel], laidTests := true, laidLooks := .later }
def MeaningSamesCardSaid : Prop := Claim7.holds Tryz.pinned (.plain (OpenSpec.ofChange meaningSamesSpec)) meaningSamesCard

/-- THE SECOND FORM's CARD OF 'treadmilllaw15.MeaningSames'. -/
def meaningSamesUptoCard : Claim7 := { stood := { row := meaningSamesUptoRow, standIns := [], harness := (true, "2cee8f9fe7c395454626751a299b476971ff664f26c65cab0d4a3d436b0b944d"), looks := true }, kinds := [], alts := [], laidByText := true, laidKinds := [.data, .data, .data, .sentinel, .sentinel], laidTests := true, laidLooks := .later }
def MeaningSamesUptoCardSaid : Prop := Claim7.holds Tryz.pinned (.plain (OpenSpec.upto meaningSamesSpec)) meaningSamesUptoCard
end Rows
end Go.Proofs.YtldbohhdpbmdcaaGreatDoor
