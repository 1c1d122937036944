/- Calls, run apart: what each gives. -/
import Derived.Test.YtbnjflmahipanaaGreatDoorSxFrame
import Derived.Test.YtbnjflmahipanaaGreatDoorTab
import Derived.Test.YtbnjflmahipanaaGreatDoorE1
import Derived.Test.YtbnjflmahipanaaGreatDoorE6
namespace Go.Sx
def E14 : Entry where
  f := 14
  args := [.ptr 29 0, .str [65], .str [78, 32, 62, 32, 53]]
  next := 318
  v := i 0
  next' := 11710
  pre := [(28, .map [⟨.str [84, 65, 66], .ptr 285 0, 0⟩] 1),
    (29, .cells [.int .i32 0, .int .u32 0, .map 28, .gslice 317 0 1 1, .bool false, .bool false] false none (some 73)),
    (257, .cells [.str [78], i 2, i 3, .bool false, .str [84], i 4, i 4, .bool false] true none (some 114)),
    (258, .cells [.bool false, .gslice 271 0 2 3, .bool false, .gslice 284 0 2 3] false none (some 97)),
    (271, .cells [i 2, i 2, .str [], i 4, i 0, .str [98]] true none (some 35)),
    (284, .cells [i 2, i 1, .str [], i 4, i 0, .str [97]] true none (some 35)),
    (285, .cells [.int .i32 0, .int .u32 0, i 0, .gslice 257 0 2 4, .slice 258 0 2 2, .nils] false none (some 124)),
    (311, .cells [.str [65], .str [84, 65, 66], .ptr 285 0, .str [], .str [], i 0, .str [], i 0, i 0, .str [], .nils, .nils, i 1, .bool false, .nils] false none (some 85)),
    (317, .cells [.ptr 311 0] true none (some 77))]
  post := [(28, .map [⟨.str [84, 65, 66], .ptr 285 0, 0⟩] 1),
    (29, .cells [.int .i32 0, .int .u32 0, .map 28, .gslice 317 0 1 1, .bool false, .bool false] false none (some 73)),
    (257, .cells [.str [78], i 2, i 3, .bool false, .str [84], i 4, i 4, .bool false] true none (some 114)),
    (258, .cells [.bool false, .gslice 271 0 2 3, .bool false, .gslice 284 0 2 3] false none (some 97)),
    (271, .cells [i 2, i 2, .str [], i 4, i 0, .str [98]] true none (some 35)),
    (284, .cells [i 2, i 1, .str [], i 4, i 0, .str [97]] true none (some 35)),
    (285, .cells [.int .i32 0, .int .u32 0, i 0, .gslice 257 0 2 4, .slice 258 0 2 2, .nils] false none (some 124)),
    (311, .cells [.str [65], .str [84, 65, 66], .ptr 285 0, .str [], .str [78, 32, 62, 32, 53], i 5, .str [62], i 0, i 0, .str [], .nils, .slice 11587 0 2 2, i 1, .bool false, .nils] false none (some 85)),
    (317, .cells [.ptr 311 0] true none (some 77)),
    (11587, .cells [i 1, .str [78], i 0, i 0, .str [], .nils, .nils, i 0, .str [], i 2, i 5, .str [], .nils, .nils] false none (some 82))]
set_option maxRecDepth 100000 in
theorem E14_ok : E14.ok theP glob (xtN theP) (memo [E13, E3] none3) 1000 = true := by kernel_rfl
theorem E14_cal (val : Nat → Value) : CalOk theP (xtN theP) ⟨val, glob⟩ E14.at := calOk_entry (n := 1000) mixed xtN_ok (calOk_cons (E13_cal val) (calOk_cons (E3_cal val) calOk_none)) E14_ok
def E15 : Entry where
  f := 21
  args := [.ptr 29 0, .str [65]]
  next := 11710
  v := i 0
  next' := 12331
  pre := [(28, .map [⟨.str [84, 65, 66], .ptr 285 0, 0⟩] 1),
    (29, .cells [.int .i32 0, .int .u32 0, .map 28, .gslice 317 0 1 1, .bool false, .bool false] false none (some 73)),
    (257, .cells [.str [78], i 2, i 3, .bool false, .str [84], i 4, i 4, .bool false] true none (some 114)),
    (258, .cells [.bool false, .gslice 271 0 2 3, .bool false, .gslice 284 0 2 3] false none (some 97)),
    (271, .cells [i 2, i 2, .str [], i 4, i 0, .str [98]] true none (some 35)),
    (284, .cells [i 2, i 1, .str [], i 4, i 0, .str [97]] true none (some 35)),
    (285, .cells [.int .i32 0, .int .u32 0, i 0, .gslice 257 0 2 4, .slice 258 0 2 2, .nils] false none (some 124)),
    (311, .cells [.str [65], .str [84, 65, 66], .ptr 285 0, .str [], .str [78, 32, 62, 32, 53], i 5, .str [62], i 0, i 0, .str [], .nils, .slice 11587 0 2 2, i 1, .bool false, .nils] false none (some 85)),
    (317, .cells [.ptr 311 0] true none (some 77)),
    (11587, .cells [i 1, .str [78], i 0, i 0, .str [], .nils, .nils, i 0, .str [], i 2, i 5, .str [], .nils, .nils] false none (some 82))]
  post := [(28, .map [⟨.str [84, 65, 66], .ptr 285 0, 0⟩] 1),
    (29, .cells [.int .i32 0, .int .u32 0, .map 28, .gslice 317 0 1 1, .bool false, .bool false] false none (some 73)),
    (257, .cells [.str [78], i 2, i 3, .bool false, .str [84], i 4, i 4, .bool false] true none (some 114)),
    (258, .cells [.bool false, .gslice 271 0 2 3, .bool false, .gslice 284 0 2 3] false none (some 97)),
    (271, .cells [i 2, i 2, .str [], i 4, i 0, .str [98]] true none (some 35)),
    (284, .cells [i 2, i 1, .str [], i 4, i 0, .str [97]] true none (some 35)),
    (285, .cells [.int .i32 0, .int .u32 0, i 0, .gslice 257 0 2 4, .slice 258 0 2 2, .nils] false none (some 124)),
    (311, .cells [.str [65], .str [84, 65, 66], .ptr 285 0, .str [], .str [78, 32, 62, 32, 53], i 5, .str [62], i 0, i 0, .str [], .nils, .slice 11587 0 2 2, i 0, .bool true, .nils] false none (some 85)),
    (317, .cells [.ptr 311 0] true none (some 77)),
    (11587, .cells [i 1, .str [78], i 0, i 0, .str [], .nils, .nils, i 0, .str [], i 2, i 5, .str [], .nils, .nils] false none (some 82))]
set_option maxRecDepth 100000 in
theorem E15_ok : E15.ok theP glob (xtN theP) (memo [] none3) 1000 = true := by kernel_rfl
theorem E15_cal (val : Nat → Value) : CalOk theP (xtN theP) ⟨val, glob⟩ E15.at := calOk_entry (n := 1000) mixed xtN_ok calOk_none E15_ok
end Go.Sx
