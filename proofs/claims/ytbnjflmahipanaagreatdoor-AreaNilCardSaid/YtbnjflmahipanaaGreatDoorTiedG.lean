/- What the row's tie asks, in pieces: each place stands at its row. -/
import Derived.Test.YtbnjflmahipanaaGreatDoorTiedF
namespace Go.Proofs.YtbnjflmahipanaaGreatDoor
open Go Go.Sx
theorem t9b : ∀ os tape, laidRowsB Tryz.prog (varsWorld Tryz.prog 400 (varsId Tryz.prog) os tape).memory places = true := fun _ _ => by kernel_rfl
end Go.Proofs.YtbnjflmahipanaaGreatDoor
