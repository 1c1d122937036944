/- One call, run apart: what it gives. -/
import Derived.Test.YtmlcbegbidaehaaGreatDoorSxFrame
import Derived.Test.YtmlcbegbidaehaaGreatDoorTab
import Derived.Test.YtmlcbegbidaehaaGreatDoorE13
namespace Go.Sx
def E14 : Entry where
  f := 41
  args := [.ptr 247 0, i 1, .agg [.bool false, .slice 11218 0 1 1]]
  next := 11219
  v := i 0
  next' := 12611
  pre := [(206, .cells [.str [65], i 2, i 5, .bool false] true none (some 90)),
    (207, .cells [.bool false, .gslice 220 0 1 3, .bool false, .gslice 233 0 1 3, .bool false, .gslice 246 0 1 3] false none (some 28)),
    (220, .cells [i 2, i 0, .str []] true none (some 72)),
    (233, .cells [i 2, i 1, .str []] true none (some 72)),
    (246, .cells [i 2, i 0, .str []] true none (some 72)),
    (247, .cells [.int .i32 0, .int .u32 0, i 0, .gslice 206 0 1 4, .slice 207 0 3 3, .gslice 11159 0 1 21] false none (some 69)),
    (10885, .cells [.gslice 11146 0 2 2, .nils] false none (some 156)),
    (10886, .cells [.int .i32 0, .int .u32 0, .ptr 10885 0, i 2] false none (some 123)),
    (10993, .cells [.str [2, 0, 3, 141, 126, 164, 198, 128, 0], i 1] true (some 11146) (some 118)),
    (11146, .cells [.str [2, 0, 3, 141, 126, 164, 198, 128, 0], i 1, .str [2, 0, 3, 141, 126, 164, 198, 128, 1], i 2] true (some 10993) (some 118)),
    (11159, .cells [.str [84], .str [65], .str [], i 1, .bool false, i 0, i 1, .str [65], i 0, i 0, .str [], .nils, .nils, i 0, .str [], i 0, i 0, .str [], .nils, .nils, .ptr 10886 0] true none (some 83)),
    (11218, .cells [i 2, i 7, .str []] false none (some 72))]
  post := [(206, .cells [.str [65], i 2, i 5, .bool false] true none (some 90)),
    (207, .cells [.bool false, .gslice 220 0 1 3, .bool false, .gslice 233 0 1 3, .bool false, .gslice 246 0 1 3] false none (some 28)),
    (220, .cells [i 2, i 0, .str []] true none (some 72)),
    (233, .cells [i 2, i 1, .str []] true none (some 72)),
    (246, .cells [i 2, i 0, .str []] true none (some 72)),
    (247, .cells [.int .i32 0, .int .u32 0, i 0, .gslice 11227 0 1 4, .slice 11228 0 3 3, .gslice 12610 0 1 21] false none (some 69)),
    (10885, .cells [.gslice 11146 0 2 2, .nils] false none (some 156)),
    (10886, .cells [.int .i32 0, .int .u32 0, .ptr 10885 0, i 2] false none (some 123)),
    (10993, .cells [.str [2, 0, 3, 141, 126, 164, 198, 128, 0], i 1] true (some 11146) (some 118)),
    (11146, .cells [.str [2, 0, 3, 141, 126, 164, 198, 128, 0], i 1, .str [2, 0, 3, 141, 126, 164, 198, 128, 1], i 2] true (some 10993) (some 118)),
    (11159, .cells [.str [84], .str [65], .str [], i 1, .bool false, i 0, i 1, .str [65], i 0, i 0, .str [], .nils, .nils, i 0, .str [], i 0, i 0, .str [], .nils, .nils, .ptr 10886 0] true none (some 83)),
    (11218, .cells [i 2, i 7, .str []] false none (some 72)),
    (11227, .cells [.str [65], i 2, i 5, .bool false] true none (some 90)),
    (11228, .cells [.bool false, .gslice 11370 0 1 3, .bool false, .gslice 11254 0 1 3, .bool false, .gslice 11267 0 1 3] false none (some 28)),
    (11254, .cells [i 2, i 1, .str []] true none (some 72)),
    (11267, .cells [i 2, i 0, .str []] true none (some 72)),
    (11370, .cells [i 2, i 7, .str []] true none (some 72)),
    (11859, .cells [.int .i32 0, .int .u32 0, .ptr 11862 0, i 3] false none (some 123)),
    (11862, .cells [.gslice 12608 0 3 2, .nils] false none (some 156)),
    (12608, .cells [.str [2, 0, 3, 141, 126, 164, 198, 128, 0], i 3, .str [2, 0, 3, 141, 126, 164, 198, 128, 1], i 2, .str [2, 0, 3, 141, 126, 164, 198, 128, 7], i 1] true none (some 118)),
    (12610, .cells [.str [84], .str [65], .str [], i 1, .bool false, i 0, i 1, .str [65], i 0, i 0, .str [], .nils, .nils, i 0, .str [], i 0, i 0, .str [], .nils, .nils, .ptr 11859 0] true none (some 83))]
set_option maxRecDepth 100000 in
theorem E14_ok : E14.ok theP glob (xtN theP) (memo [E13] none3) 1000 = true := by kernel_rfl
theorem E14_cal (val : Nat → Value) : CalOk theP (xtN theP) ⟨val, glob⟩ E14.at := calOk_entry (n := 1000) mixed xtN_ok (calOk_cons (E13_cal val) calOk_none) E14_ok
end Go.Sx
