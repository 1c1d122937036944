/- Calls, run apart: what each gives. -/
import Derived.Test.YtbnjflmahipanaaGreatDoorSxFrame
import Derived.Test.YtbnjflmahipanaaGreatDoorTab
import Derived.Test.YtbnjflmahipanaaGreatDoorE2
import Derived.Test.YtbnjflmahipanaaGreatDoorE3
import Derived.Test.YtbnjflmahipanaaGreatDoorE4
import Derived.Test.YtbnjflmahipanaaGreatDoorE5
namespace Go.Sx
def E12 : Entry where
  f := 85
  args := [.slice 1701 0 66 66, i 0, i 66, i 7]
  next := 1702
  v := .tuple []
  next' := 10965
  pre := [(1701, .cells [.str [80, 82, 79, 67, 69, 68, 85, 82, 69], .str [70, 85, 78, 67, 84, 73, 79, 78], .str [76, 79, 67, 65, 76], .str [80, 82, 73, 86, 65, 84, 69], .str [80, 85, 66, 76, 73, 67], .str [83, 84, 65, 84, 73, 67], .str [73, 70], .str [69, 76, 83, 69, 73, 70], .str [69, 76, 83, 69], .str [69, 78, 68, 73, 70], .str [68, 79], .str [67, 65, 83, 69], .str [79, 84, 72, 69, 82, 87, 73, 83, 69], .str [69, 78, 68, 67, 65, 83, 69], .str [87, 72, 73, 76, 69], .str [69, 78, 68, 68, 79], .str [70, 79, 82], .str [84, 79], .str [83, 84, 69, 80], .str [78, 69, 88, 84], .str [76, 79, 79, 80], .str [69, 88, 73, 84], .str [82, 69, 84, 85, 82, 78], .str [87, 73, 84, 72], .str [66, 82, 69, 65, 75], .str [66, 69, 71, 73, 78], .str [83, 69, 81, 85, 69, 78, 67, 69], .str [82, 69, 67, 79, 86, 69, 82], .str [85, 83, 73, 78, 71], .str [69, 78, 68], .str [83, 69, 76, 69, 67, 84], .str [85, 83, 69], .str [65, 76, 73, 65, 83], .str [71, 79], .str [84, 79, 80], .str [66, 79, 84, 84, 79, 77], .str [83, 75, 73, 80], .str [83, 69, 69, 75], .str [76, 79, 67, 65, 84, 69], .str [67, 79, 78, 84, 73, 78, 85, 69], .str [82, 69, 80, 76, 65, 67, 69], .str [68, 69, 76, 69, 84, 69], .str [82, 69, 67, 65, 76, 76], .str [65, 80, 80, 69, 78, 68], .str [66, 76, 65, 78, 75], .str [80, 65, 67, 75], .str [90, 65, 80], .str [67, 79, 85, 78, 84], .str [83, 85, 77], .str [73, 78, 68, 69, 88], .str [79, 78], .str [84, 65, 71], .str [85, 78, 73, 81, 85, 69], .str [67, 65, 78, 68, 73, 68, 65, 84, 69], .str [68, 69, 83, 67, 69, 78, 68, 73, 78, 71], .str [83, 69, 84], .str [79, 82, 68, 69, 82], .str [70, 73, 76, 84, 69, 82], .str [82, 69, 76, 65, 84, 73, 79, 78], .str [73, 78, 84, 79], .str [69, 88, 65, 67, 84], .str [68, 69, 76, 69, 84, 69, 68], .str [79, 70, 70], .str [65, 76, 76], .str [82, 69, 83, 84], .str [82, 69, 67, 79, 82, 68]] false none (some 9))]
  post := [(1701, .cells [.str [65, 76, 73, 65, 83], .str [65, 76, 76], .str [65, 80, 80, 69, 78, 68], .str [66, 69, 71, 73, 78], .str [66, 76, 65, 78, 75], .str [66, 79, 84, 84, 79, 77], .str [66, 82, 69, 65, 75], .str [67, 65, 78, 68, 73, 68, 65, 84, 69], .str [67, 65, 83, 69], .str [67, 79, 78, 84, 73, 78, 85, 69], .str [67, 79, 85, 78, 84], .str [68, 69, 76, 69, 84, 69], .str [68, 69, 76, 69, 84, 69, 68], .str [68, 69, 83, 67, 69, 78, 68, 73, 78, 71], .str [68, 79], .str [69, 76, 83, 69], .str [69, 76, 83, 69, 73, 70], .str [69, 78, 68], .str [69, 78, 68, 67, 65, 83, 69], .str [69, 78, 68, 68, 79], .str [69, 78, 68, 73, 70], .str [69, 88, 65, 67, 84], .str [69, 88, 73, 84], .str [70, 73, 76, 84, 69, 82], .str [70, 79, 82], .str [70, 85, 78, 67, 84, 73, 79, 78], .str [71, 79], .str [73, 70], .str [73, 78, 68, 69, 88], .str [73, 78, 84, 79], .str [76, 79, 67, 65, 76], .str [76, 79, 67, 65, 84, 69], .str [76, 79, 79, 80], .str [78, 69, 88, 84], .str [79, 70, 70], .str [79, 78], .str [79, 82, 68, 69, 82], .str [79, 84, 72, 69, 82, 87, 73, 83, 69], .str [80, 65, 67, 75], .str [80, 82, 73, 86, 65, 84, 69], .str [80, 82, 79, 67, 69, 68, 85, 82, 69], .str [80, 85, 66, 76, 73, 67], .str [82, 69, 67, 65, 76, 76], .str [82, 69, 67, 79, 82, 68], .str [82, 69, 67, 79, 86, 69, 82], .str [82, 69, 76, 65, 84, 73, 79, 78], .str [82, 69, 80, 76, 65, 67, 69], .str [82, 69, 83, 84], .str [82, 69, 84, 85, 82, 78], .str [83, 69, 69, 75], .str [83, 69, 76, 69, 67, 84], .str [83, 69, 81, 85, 69, 78, 67, 69], .str [83, 69, 84], .str [83, 75, 73, 80], .str [83, 84, 65, 84, 73, 67], .str [83, 84, 69, 80], .str [83, 85, 77], .str [84, 65, 71], .str [84, 79], .str [84, 79, 80], .str [85, 78, 73, 81, 85, 69], .str [85, 83, 69], .str [85, 83, 73, 78, 71], .str [87, 72, 73, 76, 69], .str [87, 73, 84, 72], .str [90, 65, 80]] false none (some 9))]
set_option maxRecDepth 100000 in
theorem E12_ok : E12.ok theP glob (xtN theP) (memo [E11, E10, E9, E8, E7, E6] none3) 1000 = true := by kernel_rfl
theorem E12_cal (val : Nat → Value) : CalOk theP (xtN theP) ⟨val, glob⟩ E12.at := calOk_entry (n := 1000) mixed xtN_ok (calOk_cons (E11_cal val) (calOk_cons (E10_cal val) (calOk_cons (E9_cal val) (calOk_cons (E8_cal val) (calOk_cons (E7_cal val) (calOk_cons (E6_cal val) calOk_none)))))) E12_ok
def E13 : Entry where
  f := 143
  args := [.gslice 1624 0 4 3]
  next := 1698
  v := .tuple [.agg [i 5, .str [62], i 0, i 0, .str [], .nils, .slice 11587 0 2 2], .int .i64 (-1)]
  next' := 11670
  pre := [(1548, .cells [i 0, i 0, .str [78], i 4, i 2, .str [62], i 1, i 4, .str [53]] true (some 1624) (some 298)),
    (1624, .cells [i 0, i 0, .str [78], i 4, i 2, .str [62], i 1, i 4, .str [53], i 5, i 5, .str []] true (some 1548) (some 298))]
  post := [(1548, .cells [i 0, i 0, .str [78], i 4, i 2, .str [62], i 1, i 4, .str [53]] true (some 1624) (some 298)),
    (1624, .cells [i 0, i 0, .str [78], i 4, i 2, .str [62], i 1, i 4, .str [53], i 5, i 5, .str []] true (some 1548) (some 298)),
    (11587, .cells [i 1, .str [78], i 0, i 0, .str [], .nils, .nils, i 0, .str [], i 2, i 5, .str [], .nils, .nils] false none (some 82))]
set_option maxRecDepth 100000 in
theorem E13_ok : E13.ok theP glob (xtN theP) (memo [E12, E4] none3) 1000 = true := by kernel_rfl
theorem E13_cal (val : Nat → Value) : CalOk theP (xtN theP) ⟨val, glob⟩ E13.at := calOk_entry (n := 1000) mixed xtN_ok (calOk_cons (E12_cal val) (calOk_cons (E4_cal val) calOk_none)) E13_ok
end Go.Sx
