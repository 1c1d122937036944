/- What the row's tie asks, in pieces: each variable reads as its data say. -/
import Derived.Test.YtbnjflmahipanaaGreatDoorTiedA
namespace Go.Proofs.YtbnjflmahipanaaGreatDoor
open Go Go.Sx
theorem t8 : ∀ os tape, (DataW.laidRun Tryz.prog (varsWorld Tryz.prog 400 (varsId Tryz.prog) os tape).memory 8 ((lay.filter fun x => x.2.handleName?.isNone).map (·.1))).map (·.1) = some (lay.filter fun x => x.2.handleName?.isNone) := fun _ _ => by kernel_rfl
end Go.Proofs.YtbnjflmahipanaaGreatDoor
