/- One call, run apart: what it gives. -/
import Derived.Test.YtmlcbegbidaehaaGreatDoorSxFrame
import Derived.Test.YtmlcbegbidaehaaGreatDoorTab
namespace Go.Sx
def E10 : Entry where
  f := 51
  args := [.agg [.str [84], .str [65], .str [], i 1, .bool false, i 0, i 1, .str [65], i 0, i 0, .str [], .nils, .nils, i 0, .str [], i 0, i 0, .str [], .nils, .nils, .nilp], .agg [i 0, .gslice 206 0 1 4, .slice 207 0 3 3]]
  next := 10399
  v := .tuple [.gslice 10762 0 2 2, i 0]
  next' := 10790
  pre := [(206, .cells [.str [65], i 2, i 5, .bool false] true none (some 90)),
    (207, .cells [.bool false, .gslice 220 0 1 3, .bool false, .gslice 233 0 1 3, .bool false, .gslice 246 0 1 3] false none (some 28)),
    (220, .cells [i 2, i 0, .str []] true none (some 72)),
    (233, .cells [i 2, i 1, .str []] true none (some 72)),
    (246, .cells [i 2, i 0, .str []] true none (some 72))]
  post := [(206, .cells [.str [65], i 2, i 5, .bool false] true none (some 90)),
    (207, .cells [.bool false, .gslice 220 0 1 3, .bool false, .gslice 233 0 1 3, .bool false, .gslice 246 0 1 3] false none (some 28)),
    (220, .cells [i 2, i 0, .str []] true none (some 72)),
    (233, .cells [i 2, i 1, .str []] true none (some 72)),
    (246, .cells [i 2, i 0, .str []] true none (some 72)),
    (10762, .cells [.str [2, 0, 3, 141, 126, 164, 198, 128, 0], i 1, .str [2, 0, 3, 141, 126, 164, 198, 128, 1], i 2, .str [], i 0] true none (some 145))]
set_option maxRecDepth 100000 in
theorem E10_ok : E10.ok theP glob (xtN theP) (memo [] none3) 1000 = true := by kernel_rfl
theorem E10_cal (val : Nat → Value) : CalOk theP (xtN theP) ⟨val, glob⟩ E10.at := calOk_entry (n := 1000) mixed xtN_ok calOk_none E10_ok
end Go.Sx
