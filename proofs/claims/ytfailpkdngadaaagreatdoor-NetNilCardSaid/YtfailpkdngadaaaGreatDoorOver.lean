/- The row, over the walk. -/
import Derived.Test.YtfailpkdngadaaaGreatDoorWalk
import Derived.Test.YtfailpkdngadaaaGreatDoorTab
import Derived.Test.YtfailpkdngadaaaGreatDoorClosed
import Derived.OpenShut
import Derived.ShutString
import Derived.SizedLaws
namespace Go.Proofs.YtfailpkdngadaaaGreatDoor.netNil
open Go Go.ChangeShapes Go.WideShapes Go.ChangeAt Go.RowKit Go.Conc Go.ConcM Go.Sx
open Go.ChangeMaps (open_string shut_string)
set_option linter.unusedVariables false

theorem own : ownKnob Tryz.prog.godebug = none := by kernel_rfl

set_option maxRecDepth 100000 in
theorem met (os : Os) (args : Array Value) : laidMetH Tryz.prog Rows.netNilRow.laid ((laidWorld Tryz.prog os 4 535 [101, 114, 114, 111, 114] Rows.netNilRow.laid).forCall (fun _ _ => 0) ⟨#[], args, []⟩).memory :=
  laidWorld_met (by kernel_rfl) (by kernel_rfl) (by kernel_rfl)

set_option maxRecDepth 100000 in
theorem shaped (os : Os) : ((laidWorld Tryz.prog os 4 535 [101, 114, 114, 111, 114] Rows.netNilRow.laid).forCall (fun _ _ => 0) ⟨#[], #[.int .i64 0, .int .i64 0], []⟩).Shaped Tryz.prog := World.shaped_of_ZipB (by kernel_rfl) (by kernel_rfl)

set_option maxRecDepth 100000 in
theorem lifted (os : Os) (started : os.Started) (H : Type) (enc : TypeId × Value → H) (F : Stop.Interp) : ReturnsInLeavingWide Rows.netNilRow.assume Tryz.checked os 3 .any (Rows.netNilRow.pre enc Tryz.prog Tryz.f3 (OpenSpec.ofChange Rows.netNilSpec))
    ((OpenSpec.ofChange Rows.netNilSpec).postWith enc Tryz.prog Tryz.f3 F (outsideKept [.timePasses]) Rows.netNilRow.apart Rows.netNilRow.fresh Rows.netNilRow.handsOn) := by
  refine row_of_calls (C := Tryz.checked) (s := Rows.netNilSpec) (conds := Rows.netNilRow.domain) (X := laidMetH Tryz.prog Rows.netNilRow.laid) own started (by kernel_rfl) Tryz.func3
    (witness_laid (C := Tryz.checked) (s := Rows.netNilSpec) (conds := Rows.netNilRow.domain) (X := laidMetH Tryz.prog Rows.netNilRow.laid) (laidWorld Tryz.prog os 4 535 [101, 114, 114, 111, 114] Rows.netNilRow.laid) #[.int .i64 0, .int .i64 0] 8 laidWorld_os (shaped os) (by kernel_rfl) (by kernel_rfl) (by kernel_rfl) (met os _)) ?_
  intro W base args ds gs before hval0 hW hcnd hwt hX
  have hval : ∀ (j : Nat) t v, Tryz.f3.params[j]? = some t → args[j]? = some v → Value.okWide Tryz.prog W .any base t v := hval0
  have hW' := hW
  obtain ⟨p, q, hA0, hV, rfl, hfz, hnd⟩ := hW
  have hA : DataW.TrodAll enc Tryz.prog W 0 (fun _ => true) true Tryz.f3.params.toList args.toList ds p := hA0
  rw [Tryz.params3] at hA hval
  obtain ⟨v0, vs0, d0, ds0, p0, q0, hargs, rfl, rfl, h0, r0⟩ := trodAll_cons hA
  obtain ⟨v1, vs1, d1, ds1, p1, q1, rfl, rfl, rfl, h1, r1⟩ := trodAll_cons r0
  obtain ⟨rfl, rfl, rfl⟩ := trodAll_nil r1
  obtain rfl : args = #[v0, v1] := by cases args; simp_all
  obtain ⟨rfl, rfl⟩ := trodVars_none hV
  obtain ⟨a0, rfl, rfl, rfl, w0⟩ := open_int Tryz.underlying3 (hval 0 3 v0 rfl rfl) h0
  obtain ⟨a1, rfl, rfl, rfl, w1⟩ := open_int Tryz.underlying3 (hval 1 3 v1 rfl rfl) h1
  clear hA0 hval0
  refine (walk a0 a1 W hX).mono fun e W' ⟨he, bel⟩ => ?_
  subst he
  exact ⟨_, rfl, ⟨_, _, _, [], _, [], hW', trodAll_mk1 (shut_bool Tryz.underlying4 _), (trodAll_mk2 (shut_int Tryz.underlying3 w0) (shut_int Tryz.underlying3 w1)), rfl, bel.frame _, fun h => by cases h⟩, bel.os⟩

set_option maxRecDepth 100000 in
theorem over : Rows.netNilRow.holds Tryz.pinned (OpenSpec.ofChange Rows.netNilSpec) :=
  OpenClaim.holds_of_wide_leaving_time 3 Tryz.f3 rfl rfl rfl rfl rfl rfl rfl ⟨rfl, rfl, rfl, rfl, rfl⟩ rfl rfl rfl rfl rfl (by kernel_rfl) Tryz.func3 closed
    (of_decide_eq_true (by kernel_rfl)) (by unfold Func.isWrapper; first | (rw [if_pos (by decide +kernel)]; kernel_rfl) | (rw [if_neg (by decide +kernel)]; exact ⟨rfl, rfl⟩))
    (fun os started H enc _ F => lifted os started H enc F)

end Go.Proofs.YtfailpkdngadaaaGreatDoor.netNil
