/- One call, run apart: what it gives. -/
import Derived.Test.YtmlcbegbidaehaaGreatDoorSxFrame
import Derived.Test.YtmlcbegbidaehaaGreatDoorTab
import Derived.Test.YtmlcbegbidaehaaGreatDoorE0
import Derived.Test.YtmlcbegbidaehaaGreatDoorE1
import Derived.Test.YtmlcbegbidaehaaGreatDoorE9
import Derived.Test.YtmlcbegbidaehaaGreatDoorE10
namespace Go.Sx
def E11 : Entry where
  f := 8
  args := [.ptr 247 0, .agg [.str [84], .str [65], .str [], i 1, .bool false, i 0]]
  next := 248
  v := i 0
  next' := 11160
  pre := [(206, .cells [.str [65], i 2, i 5, .bool false] true none (some 90)),
    (207, .cells [.bool false, .gslice 220 0 1 3, .bool false, .gslice 233 0 1 3, .bool false, .gslice 246 0 1 3] false none (some 28)),
    (220, .cells [i 2, i 0, .str []] true none (some 72)),
    (233, .cells [i 2, i 1, .str []] true none (some 72)),
    (246, .cells [i 2, i 0, .str []] true none (some 72)),
    (247, .cells [.int .i32 0, .int .u32 0, i 0, .gslice 206 0 1 4, .slice 207 0 3 3, .nils] false none (some 69))]
  post := [(206, .cells [.str [65], i 2, i 5, .bool false] true none (some 90)),
    (207, .cells [.bool false, .gslice 220 0 1 3, .bool false, .gslice 233 0 1 3, .bool false, .gslice 246 0 1 3] false none (some 28)),
    (220, .cells [i 2, i 0, .str []] true none (some 72)),
    (233, .cells [i 2, i 1, .str []] true none (some 72)),
    (246, .cells [i 2, i 0, .str []] true none (some 72)),
    (247, .cells [.int .i32 0, .int .u32 0, i 0, .gslice 206 0 1 4, .slice 207 0 3 3, .gslice 11159 0 1 21] false none (some 69)),
    (10885, .cells [.gslice 11146 0 2 2, .nils] false none (some 156)),
    (10886, .cells [.int .i32 0, .int .u32 0, .ptr 10885 0, i 2] false none (some 123)),
    (10993, .cells [.str [2, 0, 3, 141, 126, 164, 198, 128, 0], i 1] true (some 11146) (some 118)),
    (11146, .cells [.str [2, 0, 3, 141, 126, 164, 198, 128, 0], i 1, .str [2, 0, 3, 141, 126, 164, 198, 128, 1], i 2] true (some 10993) (some 118)),
    (11159, .cells [.str [84], .str [65], .str [], i 1, .bool false, i 0, i 1, .str [65], i 0, i 0, .str [], .nils, .nils, i 0, .str [], i 0, i 0, .str [], .nils, .nils, .ptr 10886 0] true none (some 83))]
set_option maxRecDepth 100000 in
theorem E11_ok : E11.ok theP glob (xtN theP) (memo [E10, E9, E1, E0] none3) 1000 = true := by kernel_rfl
theorem E11_cal (val : Nat → Value) : CalOk theP (xtN theP) ⟨val, glob⟩ E11.at := calOk_entry (n := 1000) mixed xtN_ok (calOk_cons (E10_cal val) (calOk_cons (E9_cal val) (calOk_cons (E1_cal val) (calOk_cons (E0_cal val) calOk_none)))) E11_ok
end Go.Sx
