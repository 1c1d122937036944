/- One call, run apart: what it gives. -/
import Derived.Test.YtmlcbegbidaehaaGreatDoorSxFrame
import Derived.Test.YtmlcbegbidaehaaGreatDoorTab
namespace Go.Sx
def E0 : Entry where
  f := 136
  args := []
  next := 280
  v := .agg [u 4, u 4, u 4, u 4, u 4, u 4, u 4, u 4, u 4, u 3, u 0, u 4, u 4, u 4, u 4, u 4, u 4, u 4, u 4, u 4, u 4, u 4, u 4, u 4, u 4, u 4, u 4, u 4, u 4, u 4, u 4, u 4, u 3, u 0, u 0, u 0, u 0, u 0, u 0, u 0, u 0, u 0, u 0, u 0, u 0, u 0, u 0, u 0, u 2, u 2, u 2, u 2, u 2, u 2, u 2, u 2, u 2, u 2, u 0, u 0, u 0, u 0, u 0, u 0, u 0, u 1, u 1, u 1, u 1, u 1, u 1, u 1, u 1, u 1, u 1, u 1, u 1, u 1, u 1, u 1, u 1, u 1, u 1, u 1, u 1, u 1, u 1, u 1, u 1, u 1, u 1, u 0, u 0, u 0, u 0, u 1, u 0, u 1, u 1, u 1, u 1, u 1, u 1, u 1, u 1, u 1, u 1, u 1, u 1, u 1, u 1, u 1, u 1, u 1, u 1, u 1, u 1, u 1, u 1, u 1, u 1, u 1, u 1, u 0, u 0, u 0, u 0, u 4, u 4, u 4, u 4, u 4, u 4, u 4, u 4, u 4, u 4, u 4, u 4, u 4, u 4, u 4, u 4, u 4, u 4, u 4, u 4, u 4, u 4, u 4, u 4, u 4, u 4, u 4, u 4, u 4, u 4, u 4, u 4, u 4, u 4, u 4, u 4, u 4, u 4, u 4, u 4, u 4, u 4, u 4, u 4, u 4, u 4, u 4, u 4, u 4, u 4, u 4, u 4, u 4, u 4, u 4, u 4, u 4, u 4, u 4, u 4, u 4, u 4, u 4, u 4, u 4, u 4, u 4, u 4, u 4, u 4, u 4, u 4, u 4, u 4, u 4, u 4, u 4, u 4, u 4, u 4, u 4, u 4, u 4, u 4, u 4, u 4, u 4, u 4, u 4, u 4, u 4, u 4, u 4, u 4, u 4, u 4, u 4, u 4, u 4, u 4, u 4, u 4, u 4, u 4, u 4, u 4, u 4, u 4, u 4, u 4, u 4, u 4, u 4, u 4, u 4, u 4, u 4, u 4, u 4, u 4, u 4, u 4, u 4, u 4, u 4, u 4, u 4, u 4, u 4]
  next' := 282
  pre := []
  post := []
set_option maxRecDepth 100000 in
theorem E0_ok : E0.ok theP glob (xtN theP) (memo [] none3) 1000 = true := by kernel_rfl
theorem E0_cal (val : Nat → Value) : CalOk theP (xtN theP) ⟨val, glob⟩ E0.at := calOk_entry (n := 1000) mixed xtN_ok calOk_none E0_ok
end Go.Sx
