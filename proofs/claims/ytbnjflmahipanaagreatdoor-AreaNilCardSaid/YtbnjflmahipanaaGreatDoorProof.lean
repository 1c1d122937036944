/- AreaNil: for all strings alias and all numbers n the methods of no desk give what is said: the call returns true. Conditions: those of the given row and card alone. -/
import Derived.Test.YtbnjflmahipanaaGreatDoorOver
import Derived.Test.YtbnjflmahipanaaGreatDoorCards
import Derived.Test.YtbnjflmahipanaaGreatDoorTied
namespace Go.Proofs.YtbnjflmahipanaaGreatDoor.areaNil
open Go Go.ChangeShapes Go.WideShapes Go.ChangeAt Go.RowKit Go.Conc Go.ConcM Go.Sx
open Go.ChangeMaps (open_string shut_string)
set_option linter.unusedVariables false

set_option maxRecDepth 100000 in
theorem k_wf : Rows.areaNilRow.wfByText (OpenSpec.ofChange Rows.areaNilSpec) = true := by kernel_rfl
theorem k_main : Tryz.prog.mainIs = some (true, ("a4079e8e17514f64bbf2b9da4e7814e9195e81df0e0ece84ad62377aa767d26d" : String).toList) := by kernel_rfl
theorem k_looks : true = Tryz.prog.looks [] := by kernel_rfl
theorem k_fn : Tryz.prog.funcNamed "cabinetry/cabinetrylaw14.AreaNil" = some 3 := by kernel_rfl
theorem k_wants3 : Tryz.prog.wantsStandIn 3 = false := by kernel_rfl
theorem k_wants9 : Tryz.prog.wantsStandIn 9 = false := by kernel_rfl
set_option maxRecDepth 100000 in
theorem k_goes0 : Tryz.prog.goes 3 = false := by
  unfold Program.goes
  rw [leads_eq, unfollowed_eq]
  kernel_rfl
theorem k_goes : false = Rows.areaNilRow.goesBy Tryz.prog := by
  unfold OpenClaim.goesBy Program.goesAt Program.goesFrom
  rw [show Tryz.prog.funcNamed Rows.areaNilRow.func = some 3 from k_fn, Option.any_some, k_goes0]
  kernel_rfl

theorem card : Rows.AreaNilCardSaid :=
  card_goes false .later [.pinned, .data, .pinned, .sentinel, .sentinel, .data, .data, .data, .data, .listed, .handle] true (true, "a4079e8e17514f64bbf2b9da4e7814e9195e81df0e0ece84ad62377aa767d26d") true over k_wf areaNil_row_tie rfl ⟨rfl, rfl⟩ k_main rfl
    (fun f fn hf hfn => by
      obtain rfl : f = 3 := (Option.some.inj (k_fn.symm.trans hf)).symm
      obtain rfl : fn = Tryz.f3 := (Option.some.inj (Tryz.func3.symm.trans hfn)).symm
      refine ⟨k_looks, fun j t ht => ?_⟩
      rw [Tryz.params3] at ht
      match j, ht with
      | 0, ht =>
        obtain rfl : 9 = t := by simpa using ht
        exact k_wants9
      | 1, ht =>
        obtain rfl : 3 = t := by simpa using ht
        exact k_wants3
      | j + 2, ht => simp at ht)
    k_goes
#print axioms card
end Go.Proofs.YtbnjflmahipanaaGreatDoor.areaNil
