/- What the law computes: the run of the machine, in words that stand for the given arguments. -/
import Derived.Test.YtbnjflmahipanaaGreatDoorTab
import Derived.Test.YtbnjflmahipanaaGreatDoorE1
import Derived.Test.YtbnjflmahipanaaGreatDoorE7
import Derived.OpenShut
import Derived.ShutString
import Derived.SizedLaws
namespace Go.Proofs.YtbnjflmahipanaaGreatDoor.areaNil
open Go Go.ChangeShapes Go.WideShapes Go.ChangeAt Go.RowKit Go.Conc Go.ConcM Go.Sx
open Go.ChangeMaps (open_string shut_string)
set_option linter.unusedVariables false


set_option maxRecDepth 100000 in
theorem run0 : isTrue (callx theP glob (xtN theP) (memo [E15, E14, E2] none3) 1000 (.fn false 3) [.ops 0 0 131072, .opq 1] ⟨.nil, 0⟩) = true := by kernel_rfl
theorem cal0 (val : Nat → Value) : CalOk theP (xtN theP) ⟨val, glob⟩ (memo [E15, E14, E2] none3) := (calOk_cons (E15_cal val) (calOk_cons (E14_cal val) (calOk_cons (E2_cal val) calOk_none)))
set_option maxRecDepth 100000 in
theorem run1 : isTrue (callx theP glob (xtN theP) (memo [E15, E14, E2] none3) 1000 (.fn false 3) [.ops 0 131073 140737488351232, .opq 1] ⟨.nil, 9⟩) = true := by kernel_rfl
theorem cal1 (val : Nat → Value) : CalOk theP (xtN theP) ⟨val, glob⟩ (memo [E15, E14, E2] none3) := (calOk_cons (E15_cal val) (calOk_cons (E14_cal val) (calOk_cons (E2_cal val) calOk_none)))

abbrev vals (a0 : ByteArray) (a1 : Int) : Nat → Value := fun k => if k = 0 then .string a0 else .int .i64 a1

theorem laid_space : ("strings.asciiSpace", Lib.tabData .u8 Lib.asciiSpaceTab) ∈ plainOf Rows.areaNilRow.laid := by
  have h : ("strings.asciiSpace", Rows.laid_strings_asciiSpace) ∈ plainOf Rows.areaNilRow.laid := List.mem_filter.2 ⟨by simp [Rows.areaNilRow], by kernel_rfl⟩
  have e : (Rows.laid_strings_asciiSpace : DataW Unit) = Lib.tabData .u8 Lib.asciiSpaceTab := by kernel_rfl
  rw [e] at h
  exact h

theorem walk (a0 : ByteArray) (a1 : Int) (w : World) (hs : laidMetH theP Rows.areaNilRow.laid w.memory) (h0 : a0.size ≤ 140737488351232) :
    Calls Tryz.prog 3 #[.string a0, .int .i64 a1] w fun e w' => e = .returned (.bool true) ∧ Below w.heap.size w w' := by
  have hg : ∀ (k : Nat) (cs : List AV), glob k = some cs → ∃ a t fr, w.heap[k]? = some (.cells a t fr) ∧ GlobA ⟨vals a0 a1, glob⟩ cs a := glob_ok (W := w.memory) hs laid_space
  by_cases hz : a0.size ≤ 131072
  · exact calls_true (nx := 0) (ρ := ⟨vals a0 a1, glob⟩) (xs := [.string a0, .int .i64 a1]) mixed xtN_ok (cal0 _) run0 (by simp [concL, conc, vals, oneV, hz]) hg
  · have h2 : 131073 ≤ a0.size := by omega
    exact calls_true (nx := 9) (ρ := ⟨vals a0 a1, glob⟩) (xs := [.string a0, .int .i64 a1]) mixed xtN_ok (cal1 _) run1 (by simp [concL, conc, vals, oneV, h2, h0]) hg

end Go.Proofs.YtbnjflmahipanaaGreatDoor.areaNil
