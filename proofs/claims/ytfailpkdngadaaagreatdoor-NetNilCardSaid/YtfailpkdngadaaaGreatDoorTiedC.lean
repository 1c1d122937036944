/- What the row's tie asks, in pieces: each handle holds its type. -/
import Derived.Test.YtfailpkdngadaaaGreatDoorTiedA
namespace Go.Proofs.YtfailpkdngadaaaGreatDoor
open Go Go.Sx
theorem t10 : ∀ os tape, (lay.filter fun x => x.2.handleName?.isSome).all (handleAtB Tryz.prog (varsWorld Tryz.prog 400 (varsId Tryz.prog) os tape).memory) = true := fun _ _ => by kernel_rfl
end Go.Proofs.YtfailpkdngadaaaGreatDoor
