/- Calls, run apart: what each gives. -/
import Derived.Test.YtbnjflmahipanaaGreatDoorSxFrame
import Derived.Test.YtbnjflmahipanaaGreatDoorTab
import Derived.Test.YtbnjflmahipanaaGreatDoorE0
namespace Go.Sx
def E2 : Entry where
  f := 28
  args := [.agg [i 0, .slice 11 0 2 2, .slice 18 0 2 2]]
  next := 31
  v := .tuple [.ptr 285 0, i 0]
  next' := 286
  pre := [(11, .cells [.str [78], i 2, i 3, .bool false, .str [84], i 4, i 4, .bool false] false none (some 114)),
    (14, .cells [i 2, i 2, .str [], i 4, i 0, .str [98]] false none (some 35)),
    (17, .cells [i 2, i 1, .str [], i 4, i 0, .str [97]] false none (some 35)),
    (18, .cells [.bool false, .slice 14 0 2 2, .bool false, .slice 17 0 2 2] false none (some 97))]
  post := [(11, .cells [.str [78], i 2, i 3, .bool false, .str [84], i 4, i 4, .bool false] false none (some 114)),
    (14, .cells [i 2, i 2, .str [], i 4, i 0, .str [98]] false none (some 35)),
    (17, .cells [i 2, i 1, .str [], i 4, i 0, .str [97]] false none (some 35)),
    (18, .cells [.bool false, .slice 14 0 2 2, .bool false, .slice 17 0 2 2] false none (some 97)),
    (257, .cells [.str [78], i 2, i 3, .bool false, .str [84], i 4, i 4, .bool false] true none (some 114)),
    (258, .cells [.bool false, .gslice 271 0 2 3, .bool false, .gslice 284 0 2 3] false none (some 97)),
    (271, .cells [i 2, i 2, .str [], i 4, i 0, .str [98]] true none (some 35)),
    (284, .cells [i 2, i 1, .str [], i 4, i 0, .str [97]] true none (some 35)),
    (285, .cells [.int .i32 0, .int .u32 0, i 0, .gslice 257 0 2 4, .slice 258 0 2 2, .nils] false none (some 124))]
set_option maxRecDepth 100000 in
theorem E2_ok : E2.ok theP glob (xtN theP) (memo [E1, E0] none3) 1000 = true := by kernel_rfl
theorem E2_cal (val : Nat → Value) : CalOk theP (xtN theP) ⟨val, glob⟩ E2.at := calOk_entry (n := 1000) mixed xtN_ok (calOk_cons (E1_cal val) (calOk_cons (E0_cal val) calOk_none)) E2_ok
def E3 : Entry where
  f := 195
  args := []
  next := 337
  v := .agg [u 4, u 4, u 4, u 4, u 4, u 4, u 4, u 4, u 4, u 3, u 0, u 4, u 4, u 4, u 4, u 4, u 4, u 4, u 4, u 4, u 4, u 4, u 4, u 4, u 4, u 4, u 4, u 4, u 4, u 4, u 4, u 4, u 3, u 0, u 0, u 0, u 0, u 0, u 0, u 0, u 0, u 0, u 0, u 0, u 0, u 0, u 0, u 0, u 2, u 2, u 2, u 2, u 2, u 2, u 2, u 2, u 2, u 2, u 0, u 0, u 0, u 0, u 0, u 0, u 0, u 1, u 1, u 1, u 1, u 1, u 1, u 1, u 1, u 1, u 1, u 1, u 1, u 1, u 1, u 1, u 1, u 1, u 1, u 1, u 1, u 1, u 1, u 1, u 1, u 1, u 1, u 0, u 0, u 0, u 0, u 1, u 0, u 1, u 1, u 1, u 1, u 1, u 1, u 1, u 1, u 1, u 1, u 1, u 1, u 1, u 1, u 1, u 1, u 1, u 1, u 1, u 1, u 1, u 1, u 1, u 1, u 1, u 1, u 0, u 0, u 0, u 0, u 4, u 4, u 4, u 4, u 4, u 4, u 4, u 4, u 4, u 4, u 4, u 4, u 4, u 4, u 4, u 4, u 4, u 4, u 4, u 4, u 4, u 4, u 4, u 4, u 4, u 4, u 4, u 4, u 4, u 4, u 4, u 4, u 4, u 4, u 4, u 4, u 4, u 4, u 4, u 4, u 4, u 4, u 4, u 4, u 4, u 4, u 4, u 4, u 4, u 4, u 4, u 4, u 4, u 4, u 4, u 4, u 4, u 4, u 4, u 4, u 4, u 4, u 4, u 4, u 4, u 4, u 4, u 4, u 4, u 4, u 4, u 4, u 4, u 4, u 4, u 4, u 4, u 4, u 4, u 4, u 4, u 4, u 4, u 4, u 4, u 4, u 4, u 4, u 4, u 4, u 4, u 4, u 4, u 4, u 4, u 4, u 4, u 4, u 4, u 4, u 4, u 4, u 4, u 4, u 4, u 4, u 4, u 4, u 4, u 4, u 4, u 4, u 4, u 4, u 4, u 4, u 4, u 4, u 4, u 4, u 4, u 4, u 4, u 4, u 4, u 4, u 4, u 4, u 4]
  next' := 339
  pre := []
  post := []
set_option maxRecDepth 100000 in
theorem E3_ok : E3.ok theP glob (xtN theP) (memo [] none3) 1000 = true := by kernel_rfl
theorem E3_cal (val : Nat → Value) : CalOk theP (xtN theP) ⟨val, glob⟩ E3.at := calOk_entry (n := 1000) mixed xtN_ok calOk_none E3_ok
end Go.Sx
