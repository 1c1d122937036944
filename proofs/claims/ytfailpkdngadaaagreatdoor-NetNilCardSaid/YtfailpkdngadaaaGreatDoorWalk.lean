/- What the law computes: the run of the machine, in words that stand for the given arguments. -/
import Derived.Test.YtfailpkdngadaaaGreatDoorTab
import Derived.OpenShut
import Derived.ShutString
import Derived.SizedLaws
namespace Go.Proofs.YtfailpkdngadaaaGreatDoor.netNil
open Go Go.ChangeShapes Go.WideShapes Go.ChangeAt Go.RowKit Go.Conc Go.ConcM Go.Sx
open Go.ChangeMaps (open_string shut_string)
set_option linter.unusedVariables false


set_option maxRecDepth 100000 in
theorem run0 : isTrue (callx theP glob (xtN theP) (none3) 1000 (.fn false 3) [.opq 0, .opq 1] ⟨.nil, 0⟩) = true := by kernel_rfl
theorem cal0 (val : Nat → Value) : CalOk theP (xtN theP) ⟨val, glob⟩ (none3) := calOk_none

abbrev vals (a0 : Int) (a1 : Int) : Nat → Value := fun k => if k = 0 then .int .i64 a0 else .int .i64 a1

theorem laid_space : ("strings.asciiSpace", Lib.tabData .u8 Lib.asciiSpaceTab) ∈ plainOf Rows.netNilRow.laid := by
  have h : ("strings.asciiSpace", Rows.laid_strings_asciiSpace) ∈ plainOf Rows.netNilRow.laid := List.mem_filter.2 ⟨by simp [Rows.netNilRow], by kernel_rfl⟩
  have e : (Rows.laid_strings_asciiSpace : DataW Unit) = Lib.tabData .u8 Lib.asciiSpaceTab := by kernel_rfl
  rw [e] at h
  exact h

theorem walk (a0 : Int) (a1 : Int) (w : World) (hs : laidMetH theP Rows.netNilRow.laid w.memory) :
    Calls Tryz.prog 3 #[.int .i64 a0, .int .i64 a1] w fun e w' => e = .returned (.bool true) ∧ Below w.heap.size w w' := by
  have hg : ∀ (k : Nat) (cs : List AV), glob k = some cs → ∃ a t fr, w.heap[k]? = some (.cells a t fr) ∧ GlobA ⟨vals a0 a1, glob⟩ cs a := glob_ok (W := w.memory) hs laid_space
  exact calls_true (ρ := ⟨vals a0 a1, glob⟩) (xs := [.int .i64 a0, .int .i64 a1]) mixed xtN_ok (cal0 _) run0 (by simp [concL, conc, vals, oneV]) hg

end Go.Proofs.YtfailpkdngadaaaGreatDoor.netNil
