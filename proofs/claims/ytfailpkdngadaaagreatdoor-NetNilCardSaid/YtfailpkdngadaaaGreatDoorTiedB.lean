/- What the row's tie asks, in pieces: the run of the variables ends. -/
import Derived.Test.YtfailpkdngadaaaGreatDoorTiedA
namespace Go.Proofs.YtfailpkdngadaaaGreatDoor
open Go Go.Sx
theorem t6 : varsNamedLaterB Tryz.prog (varsId Tryz.prog) lay = true := by kernel_rfl
theorem t7 : ∀ os tape, varsDone Tryz.prog 400 (varsId Tryz.prog) os tape = true := fun _ _ => by kernel_rfl
end Go.Proofs.YtfailpkdngadaaaGreatDoor
