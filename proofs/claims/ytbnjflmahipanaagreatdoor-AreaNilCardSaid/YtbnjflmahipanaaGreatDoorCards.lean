/-
  DERIVED. GIVEN WITH THE SEED: THE CARDS: each row of YtbnjflmahipanaaGreatDoorRows.lean that lists a variable, with what it lists TIED to the program's text (the seventh form; the later family's looks); each row that meets fmt, with fmt's text TOLD by the authors' own Lean function (tested against real Go, not proved from fmt's source: count such statements apart). THE CARD IS WHAT COUNTS. Prove the row's statement (the work); the ties are given (YtbnjflmahipanaaGreatDoorTie.lean); close each card by the builder's one call (the guide's Derived/Test/ToyasCard.lean, 'card_holds'). Laid BY PROGRAM, IN A SANDBOX (cutbox-door.mjs). By AI agents, Wed Nov 11 2026. No macro, syntax, notation, axiom, sorry.
-/
import Derived.Test.YtbnjflmahipanaaGreatDoorRows
import GoSem.ClaimSeven
namespace Go.Proofs.YtbnjflmahipanaaGreatDoor
namespace Rows

/-- THE TIED CARD OF 'cabinetrylaw14.AreaNil'. -/
def areaNilCard : Claim7 := { stood := { row := areaNilRow, standIns := [], harness := (true, "a4079e8e17514f64bbf2b9da4e7814e9195e81df0e0ece84ad62377aa767d26d"), looks := true }, kinds := [], alts := [], laidByText := true, laidKinds := [.pinned, .data, .pinned, .sentinel, .sentinel, .data, .data, .data, .data, .listed, .handle], laidTests := true, laidLooks := .later }
def AreaNilCardSaid : Prop := Claim7.holds Tryz.pinned (.plain (OpenSpec.ofChange areaNilSpec)) areaNilCard

/-- THE SECOND FORM's CARD OF 'cabinetrylaw14.AreaNil'. -/
def areaNilUptoCard : Claim7 := { stood := { row := areaNilUptoRow, standIns := [], harness := (true, "a4079e8e17514f64bbf2b9da4e7814e9195e81df0e0ece84ad62377aa767d26d"), looks := true }, kinds := [], alts := [], laidByText := true, laidKinds := [.pinned, .data, .pinned, .sentinel, .sentinel, .data, .data, .data, .data, .listed, .handle], laidTests := true, laidLooks := .later }
def AreaNilUptoCardSaid : Prop := Claim7.holds Tryz.pinned (.plain (OpenSpec.upto areaNilSpec)) areaNilUptoCard
end Rows
end Go.Proofs.YtbnjflmahipanaaGreatDoor
