/- What the row's tie asks, in pieces: the run of the variables ends. -/
import Derived.Test.YtbnjflmahipanaaGreatDoorTiedA
namespace Go.Proofs.YtbnjflmahipanaaGreatDoor
open Go Go.Sx
theorem t6 : varsNamedLaterB Tryz.prog (varsId Tryz.prog) lay = true := by kernel_rfl
theorem t7 : ∀ os tape, varsDone Tryz.prog 400 (varsId Tryz.prog) os tape = true := fun _ _ => by kernel_rfl
theorem t10 : ∀ os tape, (lay.filter fun x => x.2.handleName?.isSome).all (handleAtB Tryz.prog (varsWorld Tryz.prog 400 (varsId Tryz.prog) os tape).memory) = true := fun _ _ => by kernel_rfl
end Go.Proofs.YtbnjflmahipanaaGreatDoor
