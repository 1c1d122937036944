/- One call, run apart: what it gives. -/
import Derived.Test.YtmlcbegbidaehaaGreatDoorSxFrame
import Derived.Test.YtmlcbegbidaehaaGreatDoorTab
namespace Go.Sx
def E12 : Entry where
  f := 62
  args := [.agg [.str [84], .str [65], .str [], i 1, .bool false, i 0, i 1, .str [65], i 0, i 0, .str [], .nils, .nils, i 0, .str [], i 0, i 0, .str [], .nils, .nils, .ptr 10886 0], .gslice 11821 0 3 2]
  next := 11848
  v := .ptr 11859 0
  next' := 12609
  pre := [(10885, .cells [.gslice 11146 0 2 2, .nils] false none (some 156)),
    (10886, .cells [.int .i32 0, .int .u32 0, .ptr 10885 0, i 2] false none (some 123)),
    (10993, .cells [.str [2, 0, 3, 141, 126, 164, 198, 128, 0], i 1] true (some 11146) (some 118)),
    (11146, .cells [.str [2, 0, 3, 141, 126, 164, 198, 128, 0], i 1, .str [2, 0, 3, 141, 126, 164, 198, 128, 1], i 2] true (some 10993) (some 118)),
    (11821, .cells [.str [2, 0, 3, 141, 126, 164, 198, 128, 0], i 3, .str [2, 0, 3, 141, 126, 164, 198, 128, 1], i 2, .str [2, 0, 3, 141, 126, 164, 198, 128, 7], i 1] true none (some 145))]
  post := [(10885, .cells [.gslice 11146 0 2 2, .nils] false none (some 156)),
    (10886, .cells [.int .i32 0, .int .u32 0, .ptr 10885 0, i 2] false none (some 123)),
    (10993, .cells [.str [2, 0, 3, 141, 126, 164, 198, 128, 0], i 1] true (some 11146) (some 118)),
    (11146, .cells [.str [2, 0, 3, 141, 126, 164, 198, 128, 0], i 1, .str [2, 0, 3, 141, 126, 164, 198, 128, 1], i 2] true (some 10993) (some 118)),
    (11821, .cells [.str [2, 0, 3, 141, 126, 164, 198, 128, 0], i 3, .str [2, 0, 3, 141, 126, 164, 198, 128, 1], i 2, .str [2, 0, 3, 141, 126, 164, 198, 128, 7], i 1] true none (some 145)),
    (11859, .cells [.int .i32 0, .int .u32 0, .ptr 11862 0, i 3] false none (some 123)),
    (11862, .cells [.gslice 12608 0 3 2, .nils] false none (some 156)),
    (12608, .cells [.str [2, 0, 3, 141, 126, 164, 198, 128, 0], i 3, .str [2, 0, 3, 141, 126, 164, 198, 128, 1], i 2, .str [2, 0, 3, 141, 126, 164, 198, 128, 7], i 1] true none (some 118))]
set_option maxRecDepth 100000 in
theorem E12_ok : E12.ok theP glob (xtN theP) (memo [] none3) 1000 = true := by kernel_rfl
theorem E12_cal (val : Nat → Value) : CalOk theP (xtN theP) ⟨val, glob⟩ E12.at := calOk_entry (n := 1000) mixed xtN_ok calOk_none E12_ok
end Go.Sx
