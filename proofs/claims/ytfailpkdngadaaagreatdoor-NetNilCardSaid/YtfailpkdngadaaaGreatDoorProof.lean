/- NetNil: for all numbers u and k the methods of no net give what is said, and the ring of stations is found: the call returns true. Conditions: those of the given row and card alone. -/
import Derived.Test.YtfailpkdngadaaaGreatDoorOver
import Derived.Test.YtfailpkdngadaaaGreatDoorCards
import Derived.Test.YtfailpkdngadaaaGreatDoorTied
namespace Go.Proofs.YtfailpkdngadaaaGreatDoor.netNil
open Go Go.ChangeShapes Go.WideShapes Go.ChangeAt Go.RowKit Go.Conc Go.ConcM Go.Sx
open Go.ChangeMaps (open_string shut_string)
set_option linter.unusedVariables false

set_option maxRecDepth 100000 in
theorem k_wf : Rows.netNilRow.wfByText (OpenSpec.ofChange Rows.netNilSpec) = true := by kernel_rfl
theorem k_main : Tryz.prog.mainIs = some (true, ("8dc700fba8999c917480e1bf26d792a0a41f18aac83800661f853a62d1650f47" : String).toList) := by kernel_rfl
theorem k_looks : true = Tryz.prog.looks [] := by kernel_rfl
theorem k_fn : Tryz.prog.funcNamed "cabinetry/cabinetrylaw20.NetNil" = some 3 := by kernel_rfl
theorem k_wants3 : Tryz.prog.wantsStandIn 3 = false := by kernel_rfl
set_option maxRecDepth 100000 in
theorem k_goes0 : Tryz.prog.goes 3 = true := by
  unfold Program.goes
  rw [leads_eq, unfollowed_eq]
  kernel_rfl
theorem k_goes : true = Rows.netNilRow.goesBy Tryz.prog := by
  unfold OpenClaim.goesBy Program.goesAt Program.goesFrom
  rw [show Tryz.prog.funcNamed Rows.netNilRow.func = some 3 from k_fn, Option.any_some, k_goes0]
  kernel_rfl

theorem card : Rows.NetNilCardSaid :=
  card_goes .later [.pinned, .data, .handle, .pinned, .sentinel, .sentinel, .data, .data, .data, .data, .listed] true (true, "8dc700fba8999c917480e1bf26d792a0a41f18aac83800661f853a62d1650f47") true over k_wf netNil_row_tie rfl ⟨rfl, rfl⟩ k_main rfl
    (fun f fn hf hfn => by
      obtain rfl : f = 3 := (Option.some.inj (k_fn.symm.trans hf)).symm
      obtain rfl : fn = Tryz.f3 := (Option.some.inj (Tryz.func3.symm.trans hfn)).symm
      refine ⟨k_looks, fun j t ht => ?_⟩
      rw [Tryz.params3] at ht
      match j, ht with
      | 0, ht =>
        obtain rfl : 3 = t := by simpa using ht
        exact k_wants3
      | 1, ht =>
        obtain rfl : 3 = t := by simpa using ht
        exact k_wants3
      | j + 2, ht => simp at ht)
    k_goes
#print axioms card
end Go.Proofs.YtfailpkdngadaaaGreatDoor.netNil
