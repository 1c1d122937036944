/-
  DERIVED. GIVEN WITH THE SEED: THE CARDS: each row of YtmlcbegbidaehaaGreatDoorRows.lean that lists a variable, with what it lists TIED to the program's text (the seventh form; the later family's looks); each row that meets fmt, with fmt's text TOLD by the authors' own Lean function (tested against real Go, not proved from fmt's source: count such statements apart). THE CARD IS WHAT COUNTS. Prove the row's statement (the work); the ties are given (YtmlcbegbidaehaaGreatDoorTie.lean); close each card by the builder's one call (the guide's Derived/Test/ToyasCard.lean, 'card_holds'). Laid BY PROGRAM, IN A SANDBOX (cutbox-door.mjs). By AI agents, Wed Nov 11 2026. No macro, syntax, notation, axiom, sorry.
-/
import Derived.Test.YtmlcbegbidaehaaGreatDoorRows
import GoSem.ClaimSeven
namespace Go.Proofs.YtmlcbegbidaehaaGreatDoor
namespace Rows

/-- THE TIED CARD OF 'cabinetrylaw11.BagNils'. -/
def bagNilsCard : Claim7 := { stood := { row := bagNilsRow, standIns := [], harness := (true, "0b14eb4dae6b2ccea9c007fe35c4316b60a75e22d359835ac549486746522c34"), looks := true }, kinds := [], alts := [], laidByText := true, laidKinds := [.pinned, .data, .handle, .pinned, .sentinel, .sentinel, .data, .data, .data, .data, .listed], laidTests := true, laidLooks := .later }
def BagNilsCardSaid : Prop := Claim7.holds Tryz.pinned (.plain (OpenSpec.ofChange bagNilsSpec)) bagNilsCard

/-- THE SECOND FORM's CARD OF 'cabinetrylaw11.BagNils'. -/
def bagNilsUptoCard : Claim7 := { stood := { row := bagNilsUptoRow, standIns := [], harness := (true, "0b14eb4dae6b2ccea9c007fe35c4316b60a75e22d359835ac549486746522c34"), looks := true }, kinds := [], alts := [], laidByText := true, laidKinds := [.pinned, .data, .handle, .pinned, .sentinel, .sentinel, .data, .data, .data, .data, .listed], laidTests := true, laidLooks := .later }
def BagNilsUptoCardSaid : Prop := Claim7.holds Tryz.pinned (.plain (OpenSpec.upto bagNilsSpec)) bagNilsUptoCard
end Rows
end Go.Proofs.YtmlcbegbidaehaaGreatDoor
