/- Functions that have a body. -/
import Derived.Test.YtbnjflmahipanaaGreatDoorSxCall
namespace Go.Sx
set_option linter.unusedSimpArgs false
set_option linter.unusedVariables false

/-- No function of this program is called by a name that the machine answers itself. -/
def named (P : Program) : Bool := P.funcs.toList.all fun fn => !(fn.name == "runtime.NumGoroutine")

theorem body_ok {P : Program} (h : named P = true) {f : FuncId} (hb : ((P.funcs[f]?).bind fun fn => fn.body.bind fun _ => some Xt.body).isSome = true) : XtOne P f .body := by
  intro args w
  cases hf : P.funcs[f]? with
  | none => rw [hf] at hb; cases hb
  | some fn =>
    rw [hf] at hb
    simp only [Option.bind_some] at hb
    cases hbd : fn.body with
    | none => rw [hbd] at hb; cases hb
    | some c =>
      have hn : (fn.name == "runtime.NumGoroutine") = false := by
        unfold named at h
        rw [List.all_eq_true] at h
        have hm : fn ∈ P.funcs.toList := by
          obtain ⟨hlt, he⟩ := Array.getElem?_eq_some_iff.1 hf
          rw [← he]; simp
        have := h fn hm
        simpa using this
      have hn' : ¬ fn.name = "runtime.NumGoroutine" := by simpa using hn
      simp [callFunc, Sem.run_bind, program, Sem.run, hf, hbd, pure]
      exact hn'
end Go.Sx
