/- What the law computes: the run of the machine, in words that stand for the given arguments. -/
import Derived.Test.YtmlcbegbidaehaaGreatDoorTab
import Derived.Test.YtmlcbegbidaehaaGreatDoorE11
import Derived.Test.YtmlcbegbidaehaaGreatDoorE14
import Derived.OpenShut
import Derived.ShutString
import Derived.SizedLaws
namespace Go.Proofs.YtmlcbegbidaehaaGreatDoor.bagNils
open Go Go.ChangeShapes Go.WideShapes Go.ChangeAt Go.RowKit Go.Conc Go.ConcM Go.Sx
open Go.ChangeMaps (open_string shut_string)
set_option linter.unusedVariables false


set_option maxRecDepth 100000 in
theorem run0 : isTrue (callx theP glob (xtN theP) (memo [E14, E11] none3) 1000 (.fn false 3) [.opq 0, .str []] ⟨.nil, 0⟩) = true := by kernel_rfl
theorem cal0 (val : Nat → Value) : CalOk theP (xtN theP) ⟨val, glob⟩ (memo [E14, E11] none3) := (calOk_cons (E14_cal val) (calOk_cons (E11_cal val) calOk_none))
set_option maxRecDepth 100000 in
theorem run1 : isTrue (callx theP glob (xtN theP) (memo [E14, E11] none3) 1000 (.fn false 3) [.opq 0, .ops 1 1 140737488351232] ⟨.nil, 0⟩) = true := by kernel_rfl
theorem cal1 (val : Nat → Value) : CalOk theP (xtN theP) ⟨val, glob⟩ (memo [E14, E11] none3) := (calOk_cons (E14_cal val) (calOk_cons (E11_cal val) calOk_none))

abbrev vals (a0 : Int) (a1 : ByteArray) : Nat → Value := fun k => if k = 0 then .int .i64 a0 else .string a1

theorem laid_space : ("strings.asciiSpace", Lib.tabData .u8 Lib.asciiSpaceTab) ∈ plainOf Rows.bagNilsRow.laid := by
  have h : ("strings.asciiSpace", Rows.laid_strings_asciiSpace) ∈ plainOf Rows.bagNilsRow.laid := List.mem_filter.2 ⟨by simp [Rows.bagNilsRow], by kernel_rfl⟩
  have e : (Rows.laid_strings_asciiSpace : DataW Unit) = Lib.tabData .u8 Lib.asciiSpaceTab := by kernel_rfl
  rw [e] at h
  exact h

theorem walk (a0 : Int) (a1 : ByteArray) (w : World) (hs : laidMetH theP Rows.bagNilsRow.laid w.memory) (h1 : a1.size ≤ 140737488351232) :
    Calls Tryz.prog 3 #[.int .i64 a0, .string a1] w fun e w' => e = .returned (.bool true) ∧ Below w.heap.size w w' := by
  have hg : ∀ (k : Nat) (cs : List AV), glob k = some cs → ∃ a t fr, w.heap[k]? = some (.cells a t fr) ∧ GlobA ⟨vals a0 a1, glob⟩ cs a := glob_ok (W := w.memory) hs laid_space
  by_cases hz : a1.size = 0
  · obtain rfl : a1 = ByteArray.empty := by
      rcases a1 with ⟨⟨l⟩⟩
      cases l with
      | nil => rfl
      | cons x l => simp [ByteArray.size] at hz
    exact calls_true (ρ := ⟨vals a0 ByteArray.empty, glob⟩) (xs := [.int .i64 a0, .string ByteArray.empty]) mixed xtN_ok (cal0 _) run0 (by simp [concL, conc, vals, oneV, bytesOf]; rfl) hg
  · have h1' : 1 ≤ a1.size := by omega
    exact calls_true (ρ := ⟨vals a0 a1, glob⟩) (xs := [.int .i64 a0, .string a1]) mixed xtN_ok (cal1 _) run1 (by simp [concL, conc, vals, oneV, h1', h1]) hg

end Go.Proofs.YtmlcbegbidaehaaGreatDoor.bagNils
