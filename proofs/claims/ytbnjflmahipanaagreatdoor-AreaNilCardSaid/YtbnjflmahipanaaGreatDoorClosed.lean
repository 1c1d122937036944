/- The row's closed facts, joined. -/
import Derived.Test.YtbnjflmahipanaaGreatDoorFacts
import Derived.Conc.HoldsTime
namespace Go.Proofs.YtbnjflmahipanaaGreatDoor
open Go Go.Sx
set_option maxRecDepth 100000 in
theorem closed : joinedFacts Tryz.prog 3 Tryz.f3 Rows.areaNilSpec Rows.areaNilRow = true := by
  unfold joinedFacts
  rw [laidOut, mapsRowed_eq, unfollowed_eq, recurses_eq, inPlace_eq, named_eq, plainKeys_eq, stopsHeard_eq, mayEnter_eq, lifts_eq]
  kernel_rfl
end Go.Proofs.YtbnjflmahipanaaGreatDoor
