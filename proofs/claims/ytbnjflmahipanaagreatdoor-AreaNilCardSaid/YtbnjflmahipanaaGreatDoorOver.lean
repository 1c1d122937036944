/- The row, over the walk. -/
import Derived.Test.YtbnjflmahipanaaGreatDoorWalk
import Derived.Test.YtbnjflmahipanaaGreatDoorTab
import Derived.Test.YtbnjflmahipanaaGreatDoorClosed
import Derived.OpenShut
import Derived.ShutString
import Derived.SizedLaws
namespace Go.Proofs.YtbnjflmahipanaaGreatDoor.areaNil
open Go Go.ChangeShapes Go.WideShapes Go.ChangeAt Go.RowKit Go.Conc Go.ConcM Go.Sx
open Go.ChangeMaps (open_string shut_string)
set_option linter.unusedVariables false

theorem own : ownKnob Tryz.prog.godebug = none := by kernel_rfl

set_option maxRecDepth 100000 in
theorem met (os : Os) (args : Array Value) : laidMetH Tryz.prog Rows.areaNilRow.laid ((laidWorld Tryz.prog os 0 429 [101, 114, 114, 111, 114] Rows.areaNilRow.laid).forCall (fun _ _ => 0) ⟨#[], args, []⟩).memory :=
  laidWorld_met (by kernel_rfl) (by kernel_rfl) (by kernel_rfl)

set_option maxRecDepth 100000 in
theorem shaped (os : Os) : ((laidWorld Tryz.prog os 0 429 [101, 114, 114, 111, 114] Rows.areaNilRow.laid).forCall (fun _ _ => 0) ⟨#[], #[.string ByteArray.empty, .int .i64 0], []⟩).Shaped Tryz.prog := World.shaped_of_ZipB (by kernel_rfl) (by kernel_rfl)

set_option maxRecDepth 100000 in
theorem lifted (os : Os) (started : os.Started) (H : Type) (enc : TypeId × Value → H) : ReturnsInHanded Rows.areaNilRow.assume Tryz.checked os 3 .any (Rows.areaNilRow.pre enc Tryz.prog Tryz.f3 (OpenSpec.ofChange Rows.areaNilSpec))
    (Rows.areaNilSpec.post enc Tryz.prog Tryz.f3 Rows.areaNilRow.apart Rows.areaNilRow.fresh Rows.areaNilRow.handsOn Rows.areaNilRow.again) := by
  rw [OpenClaim.pre_eq_preRow]
  refine row_of_calls_handed (C := Tryz.checked) (s := Rows.areaNilSpec) (fun _ _ _ => 0) (conds := Rows.areaNilRow.domain) (laid := Rows.areaNilRow.laid) own started (by kernel_rfl) Tryz.func3
    (witness_plain (C := Tryz.checked) (s := Rows.areaNilSpec) (conds := Rows.areaNilRow.domain) (laid := Rows.areaNilRow.laid) (laidWorld Tryz.prog os 0 429 [101, 114, 114, 111, 114] Rows.areaNilRow.laid) #[.string ByteArray.empty, .int .i64 0] 8 laidWorld_os (shaped os) (by kernel_rfl) (by kernel_rfl) (by kernel_rfl) (met os _)) ?_
  intro W base args ds gs before hval0 hW hcnd hwt hX
  have hval : ∀ (j : Nat) t v, Tryz.f3.params[j]? = some t → args[j]? = some v → Value.okWide Tryz.prog W .any base t v := hval0
  have hW' := hW
  obtain ⟨p, q, hA0, hV, rfl, hfz, hnd⟩ := hW
  have hA : DataW.TrodAll enc Tryz.prog W 0 (fun _ => true) true Tryz.f3.params.toList args.toList ds p := hA0
  rw [Tryz.params3] at hA hval
  obtain ⟨v0, vs0, d0, ds0, p0, q0, hargs, rfl, rfl, h0, r0⟩ := trodAll_cons hA
  obtain ⟨v1, vs1, d1, ds1, p1, q1, rfl, rfl, rfl, h1, r1⟩ := trodAll_cons r0
  obtain ⟨rfl, rfl, rfl⟩ := trodAll_nil r1
  obtain rfl : args = #[v0, v1] := by cases args; simp_all
  obtain ⟨rfl, rfl⟩ := trodVars_none hV
  obtain ⟨a0, rfl, rfl, rfl, w0⟩ := open_string Tryz.underlying9 (hval 0 9 v0 rfl rfl) h0
  obtain ⟨a1, rfl, rfl, rfl, w1⟩ := open_int Tryz.underlying3 (hval 1 3 v1 rfl rfl) h1
  have s0 : a0.size ≤ 140737488351232 := by have h := sized_string hwt (j := 0) (t := 9) rfl rfl; exact h
  clear hA0 hval0
  refine (walk a0 a1 W hX s0).mono fun e W' ⟨he, bel⟩ => ?_
  subst he
  exact ⟨_, rfl, ⟨_, _, _, [], _, [], hW', trodAll_mk1 (shut_bool Tryz.underlying4 _), (trodAll_mk2 (shut_string Tryz.underlying9 w0) (shut_int Tryz.underlying3 w1)), rfl, bel.frame _, fun h => by cases h⟩, bel.os⟩

set_option maxRecDepth 100000 in
theorem over : Rows.areaNilRow.holds Tryz.pinned (OpenSpec.ofChange Rows.areaNilSpec) :=
  OpenClaim.holds_of_wide 3 Tryz.f3 rfl rfl rfl rfl rfl rfl rfl ⟨rfl, rfl, rfl, rfl, rfl⟩ rfl rfl rfl rfl rfl (by kernel_rfl) Tryz.func3 closed
    (of_decide_eq_true (by kernel_rfl)) (by unfold Func.isWrapper; first | (rw [if_pos (by decide +kernel)]; kernel_rfl) | (rw [if_neg (by decide +kernel)]; exact ⟨rfl, rfl⟩))
    (fun os started H enc _ => lifted os started H enc)

end Go.Proofs.YtbnjflmahipanaaGreatDoor.areaNil
