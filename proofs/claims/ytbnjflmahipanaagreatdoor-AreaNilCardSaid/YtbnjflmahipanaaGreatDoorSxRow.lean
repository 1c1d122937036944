/- From one good run at every start to the row of a law that waits for a lock that nobody has, and lists variables. -/
import Derived.Test.YtbnjflmahipanaaGreatDoorSxBody
import Derived.KernelRfl
import Derived.Conc.HoldsTime
import Derived.ProofKit
import Derived.OpenShut
import Derived.ShutString
import Derived.Below
import Derived.Lay
import Derived.LaidHandle
import Derived.Lib.LaidTab
import Derived.Stop.LaidErr
import Derived.SevenTiedAt
import Derived.Deep.DeepHandedRow
namespace Go.Sx
set_option linter.unusedSimpArgs false
set_option linter.unusedVariables false
open Go Go.ChangeShapes Go.WideShapes Go.ChangeAt Go.RowKit Go.Conc Go.ConcM

theorem leaving_of_calls {a : Assume} {C : Checked} {os : Os} {f : FuncId} {r : Reach} {Pre : World → Array Value → Prop} {Post : World → Array Value → Value → World → Prop}
    (own : ownKnob C.prog.godebug = none) (started : os.Started) (noInit : C.prog.inits.idxOf? f = none)
    (witness : ∃ (w : World) (tape : Tape) (i : Input), w.os = os ∧ (w.forCall tape i).Shaped C.prog ∧ i.vars = [] ∧ Input.okWide C.prog (w.forCall tape i) r w.heap.size f i ∧ Pre (w.forCall tape i).memory i.args ∧
      a.holds C.prog (lone (Frame.enter C.prog f i.args .normal) [] (w.forCall tape i)))
    (contract : ∀ (w : World) (tape : Tape) (i : Input), w.os = os → (w.forCall tape i).ShapedOpen C.prog → i.vars = [] → Input.okWide C.prog (w.forCall tape i) r w.heap.size f i → Pre (w.forCall tape i).memory i.args →
      a.holds C.prog (lone (Frame.enter C.prog f i.args .normal) [] (w.forCall tape i)) →
      Calls C.prog f i.args (w.forCall tape i) fun
        | .returned v, w' => Post (w.forCall tape i).blind i.args v w'.blind
        | _, _ => False) :
    ReturnsInLeavingWide a C os f r Pre Post := fun enter => by
  obtain ⟨w0, t0, i0, a1, a2, a3, a4, a5, a6⟩ := witness
  refine ⟨enter, own, started, ⟨w0, t0, i0, a1, a2, a3, a4, a5, a6, trivial⟩, fun w tape i h => ?_⟩
  obtain ⟨n, v, w', fr, hn, hend, hp⟩ := (contract w tape i h.1 h.2.1 h.2.2.1 h.2.2.2.1 h.2.2.2.2.1 h.2.2.2.2.2.1).done_lone noInit
  obtain ⟨q1, q2, q3⟩ := alone_of_lone (w' := w') hn
  exact ⟨n + 1, v, w', hend, (clean_of_lone hn).2, roomy_placeholder .., hp, ⟨n, _, hn, step_of_runs hn hend, q2, ⟨fun g hg => by simp [lone] at hg, q1.2⟩, q3⟩, fun _ _ _ => trivial⟩

section
variable {H : Type} {enc : TypeId × Value → H}

/-- What is asked of a start: variables laid, calm. -/
theorem witness_laid {C : Checked} {os : Os} {f : FuncId} {fn : Func} {s : ChangeSpec} {conds : List PathCond} {apart : Bool} {X : World → Prop} (w0 : World) (args : Array Value) (fuel : Nat) (hos : w0.os = os)
    (hsh : (w0.forCall (fun _ _ => 0) ⟨#[], args, []⟩).Shaped C.prog)
    (hok : Input.okWideB C.prog (w0.forCall (fun _ _ => 0) ⟨#[], args, []⟩) f ⟨#[], args, []⟩ = true)
    (hpre : s.preB enc C.prog fn conds apart (w0.forCall (fun _ _ => 0) ⟨#[], args, []⟩).memory args fuel = true)
    (hsz : s.sizedB enc C.prog fn apart (w0.forCall (fun _ _ => 0) ⟨#[], args, []⟩).memory args fuel = true)
    (hx : X (w0.forCall (fun _ _ => 0) ⟨#[], args, []⟩).memory) :
    ∃ (w : World) (tape : Tape) (i : Input), w.os = os ∧ (w.forCall tape i).Shaped C.prog ∧ i.vars = [] ∧ Input.okWide C.prog (w.forCall tape i) .any w.heap.size f i ∧
      ((s.pre enc C.prog fn conds apart (w.forCall tape i).memory i.args ∧ X (w.forCall tape i).memory) ∧ sizedMet enc C.prog fn (OpenSpec.ofChange s) apart (w.forCall tape i).memory i.args) ∧ ({ calm := true } : Assume).holds C.prog (lone (Frame.enter C.prog f i.args .normal) [] (w.forCall tape i)) :=
  ⟨w0, fun _ _ => 0, ⟨#[], args, []⟩, hos, hsh, (Input.okWide_of_okWideB (base := 0) hok).1, (Input.okWide_of_okWideB hok).2, ⟨⟨ChangeSpec.pre_of_preB hpre, hx⟩, sizedMet_of_sizedB hsz⟩, by
    simp only [Assume.holds]
    exact ⟨by simp, fun _ _ _ _ => rfl, by simp, by simp, by simp⟩⟩

/-- What is asked of a start: variables laid, nothing more. -/
theorem witness_plain {C : Checked} {os : Os} {f : FuncId} {fn : Func} {s : ChangeSpec} {conds : List PathCond} {apart : Bool} {laid : List (String × DataW Unit)} (w0 : World) (args : Array Value) (fuel : Nat) (hos : w0.os = os)
    (hsh : (w0.forCall (fun _ _ => 0) ⟨#[], args, []⟩).Shaped C.prog)
    (hok : Input.okWideB C.prog (w0.forCall (fun _ _ => 0) ⟨#[], args, []⟩) f ⟨#[], args, []⟩ = true)
    (hpre : s.preB enc C.prog fn conds apart (w0.forCall (fun _ _ => 0) ⟨#[], args, []⟩).memory args fuel = true)
    (hsz : s.sizedB enc C.prog fn apart (w0.forCall (fun _ _ => 0) ⟨#[], args, []⟩).memory args fuel = true)
    (hx : laidMetH C.prog laid (w0.forCall (fun _ _ => 0) ⟨#[], args, []⟩).memory) :
    ∃ (w : World) (tape : Tape) (i : Input), w.os = os ∧ (w.forCall tape i).Shaped C.prog ∧ i.vars = [] ∧ Input.okWide C.prog (w.forCall tape i) .any w.heap.size f i ∧
      (OpenSpec.ofChange s).preRow enc C.prog fn conds apart laid (w.forCall tape i).memory i.args ∧ ({} : Assume).holds C.prog (lone (Frame.enter C.prog f i.args .normal) [] (w.forCall tape i)) :=
  ⟨w0, fun _ _ => 0, ⟨#[], args, []⟩, hos, hsh, (Input.okWide_of_okWideB (base := 0) hok).1, (Input.okWide_of_okWideB hok).2, ⟨⟨ChangeSpec.pre_of_preB hpre, hx⟩, sizedMet_of_sizedB hsz⟩, by
    simp only [Assume.holds]
    exact ⟨by simp, by simp, by simp, by simp, by simp⟩⟩

theorem row_of_calls_handed {C : Checked} {os : Os} {f : FuncId} {fn : Func} {s : ChangeSpec} (F : Stop.Interp) {conds : List PathCond} {apart fresh handsOn : Bool} {laid : List (String × DataW Unit)}
    (own : ownKnob C.prog.godebug = none) (started : os.Started) (noInit : C.prog.inits.idxOf? f = none) (hfn : C.prog.funcs[f]? = some fn)
    (witness : ∃ (w : World) (tape : Tape) (i : Input), w.os = os ∧ (w.forCall tape i).Shaped C.prog ∧ i.vars = [] ∧ Input.okWide C.prog (w.forCall tape i) .any w.heap.size f i ∧
      (OpenSpec.ofChange s).preRow enc C.prog fn conds apart laid (w.forCall tape i).memory i.args ∧ ({} : Assume).holds C.prog (lone (Frame.enter C.prog f i.args .normal) [] (w.forCall tape i)))
    (contract : ∀ (W : World) (base : Nat) (args : Array Value) (ds gs : List (DataW H)) (before : List MemPlace),
      (∀ (j : Nat) t v, fn.params[j]? = some t → args[j]? = some v → Value.okWide C.prog W .any base t v) →
      DataW.Whole enc C.prog fn.params.toList s.vars apart W args.toList ds gs before →
      conds.all (PathCond.test C.prog ⟨fn.params.toList, ds, s.plain.varTypes C.prog, gs⟩) = true →
      (DataW.weightsEach C.prog (fn.params.toList ++ s.plain.varTypes C.prog) (ds ++ gs)).all (· ≤ reachBytes) = true → laidMetH C.prog laid W.memory →
      Calls C.prog f args W fun e W' => ∃ v, e = .returned v ∧ s.post enc C.prog fn apart fresh handsOn false W args v W' ∧ W'.os = W.os) :
    ReturnsInHanded {} C os f .any ((OpenSpec.ofChange s).preRow enc C.prog fn conds apart laid) (s.post enc C.prog fn apart fresh handsOn false) :=
  returnsInHanded_of_row (F := F) (again := false) own started noInit hfn witness fun W base args ds gs before h1 h2 h3 _ h5 h6 _ _ =>
    (contract W base args ds gs before h1 h2 h3 h5 (h6.of_heap (by rfl))).mono fun _ _ ⟨v, he, hp, _⟩ => ⟨v, he, hp⟩

theorem row_of_calls {a : Assume} {C : Checked} {os : Os} {f : FuncId} {fn : Func} {s : ChangeSpec} {F : Stop.Interp} {conds : List PathCond} {apart fresh handsOn : Bool} {X : World → Prop}
    (own : ownKnob C.prog.godebug = none) (started : os.Started) (noInit : C.prog.inits.idxOf? f = none) (hfn : C.prog.funcs[f]? = some fn)
    (witness : ∃ (w : World) (tape : Tape) (i : Input), w.os = os ∧ (w.forCall tape i).Shaped C.prog ∧ i.vars = [] ∧ Input.okWide C.prog (w.forCall tape i) .any w.heap.size f i ∧
      ((s.pre enc C.prog fn conds apart (w.forCall tape i).memory i.args ∧ X (w.forCall tape i).memory) ∧ sizedMet enc C.prog fn (OpenSpec.ofChange s) apart (w.forCall tape i).memory i.args) ∧ a.holds C.prog (lone (Frame.enter C.prog f i.args .normal) [] (w.forCall tape i)))
    (contract : ∀ (W : World) (base : Nat) (args : Array Value) (ds gs : List (DataW H)) (before : List MemPlace),
      (∀ (j : Nat) t v, fn.params[j]? = some t → args[j]? = some v → Value.okWide C.prog W .any base t v) →
      DataW.Whole enc C.prog fn.params.toList s.vars apart W args.toList ds gs before →
      conds.all (PathCond.test C.prog ⟨fn.params.toList, ds, s.plain.varTypes C.prog, gs⟩) = true →
      (DataW.weightsEach C.prog (fn.params.toList ++ s.plain.varTypes C.prog) (ds ++ gs)).all (· ≤ reachBytes) = true → X W.memory →
      Calls C.prog f args W fun e W' => ∃ v, e = .returned v ∧ s.post enc C.prog fn apart fresh handsOn false W args v W' ∧ W'.os = W.os) :
    ReturnsInLeavingWide a C os f .any (fun w args => (s.pre enc C.prog fn conds apart w args ∧ X w) ∧ sizedMet enc C.prog fn (OpenSpec.ofChange s) apart w args)
      ((OpenSpec.ofChange s).postWith enc C.prog fn F (outsideKept [.timePasses]) apart fresh handsOn) := by
  refine leaving_of_calls own started noInit witness ?_
  intro w tape i _ _ _ hok hpre hholds
  obtain ⟨_, _, _, fn', hfn', _, _, _, _, hval⟩ := hok
  have e : fn' = fn := Option.some.inj (hfn'.symm.trans hfn)
  subst e
  obtain ⟨⟨⟨ds, gs, before, hw, hc⟩, hx⟩, hz⟩ := hpre
  have hw' := DataW.Whole.of_heap (w' := w.forCall tape i) (by rfl) hw
  refine (contract (w.forCall tape i) w.heap.size i.args ds gs before hval hw' hc (hz.weights hw) hx).mono fun e W' ⟨v, he, hp, hos⟩ => ?_
  subst he
  refine postWith_blind (postWith_of_post ?_ ?_)
  · rw [← hos]; exact hp
  · rw [hos]; exact OsLater.refl _
end

/-! ### A start at which the listed variables lie as they are listed -/

def plainOf (l : List (String × DataW Unit)) : List (String × DataW Unit) := l.filter fun x => x.2.handleName?.isNone

/-- One variable holds the handle of a type. -/
noncomputable def handleWorld (P : Program) (os : Os) (g u : Nat) (name : List UInt8) : World :=
  let w0 := World.holding P os ⟨#[], #[], []⟩
  { w0 with heap := w0.heap.modify g fun
      | .cells _ t frozen => .cells #[.iface u (.agg #[.pointer (some ⟨P.globals.size, ((List.range P.types.size).find? fun t => P.rowNamed t name).getD 0, none⟩)])] t frozen
      | o => o }

noncomputable def laidWorld (P : Program) (os : Os) (g u : Nat) (name : List UInt8) (l : List (String × DataW Unit)) : World := (handleWorld P os g u name).layVars P (plainOf l)

theorem laidWorld_os {P : Program} {os : Os} {g u : Nat} {name : List UInt8} {l : List (String × DataW Unit)} : (laidWorld P os g u name l).os = os := World.layVars_os _ _ _

theorem laidWorld_met {P : Program} {os : Os} {g u : Nat} {name : List UInt8} {l : List (String × DataW Unit)} {args : Array Value}
    (fits : (handleWorld P os g u name).layFits P (plainOf l) [] = true)
    (ifaces : (handleWorld P os g u name).layIfaces P (plainOf l) (laidWorld P os g u name l) = true)
    (handles : ((l.filter fun x => x.2.handleName?.isSome).all (handleAtB P ((laidWorld P os g u name l).forCall (fun _ _ => 0) ⟨#[], args, []⟩).memory)) = true) :
    laidMetH P l ((laidWorld P os g u name l).forCall (fun _ _ => 0) ⟨#[], args, []⟩).memory := by
  have e1 : ((plainOf l).filter fun x => ((plainOf l).map (·.1)).contains x.1) = plainOf l := List.filter_eq_self.2 fun x hx => List.contains_iff_mem.2 (List.mem_map.2 ⟨x, hx, rfl⟩)
  have e2 : ((plainOf l).filter fun x => !((plainOf l).map (·.1)).contains x.1) = [] := List.filter_eq_nil_iff.2 fun x hx => by rw [List.contains_iff_mem.2 (List.mem_map.2 ⟨x, hx, rfl⟩)]; simp
  have h : laidMet P (plainOf l) (laidWorld P os g u name l) :=
    laidMet_layVars (w0 := handleWorld P os g u name) ((plainOf l).map (·.1)) [] (by rw [e1]; rfl) (by rw [e1]; exact fits) (by rw [e1]; exact ifaces) (by rw [e2]; exact LaidIn.none)
  exact laidMetH_of_parts (h.of_heap (by simp [World.memory, World.forCall, Input.heap])) handles

/-! ### A table of integers among the listed variables -/

theorem laidMet_drop {P : Program} {x : String × DataW Unit} {l : List (String × DataW Unit)} {w : World} (h : laidMet P (x :: l) w) : laidMet P l w := h.tail

theorem tabIs_of_mem {P : Program} {W : World} {name : String} {k : IntKind} {zs : List Int} {g : Nat} {t e : TypeId} {n : Nat}
    (hg : P.globalNamed name = some g) (hty : (P.globals[g]?).map (·.type) = some t) (ht : P.underlying t = some (.array n e)) (he : P.underlying e = some (.int k)) (hce : P.cellsOf e = 1) (hct : P.cellsOf t = n) :
    ∀ {l : List (String × DataW Unit)}, laidMet P l W → (name, Lib.tabData k zs) ∈ l → Lib.TabIs P W name k zs
  | [], _, hm => by simp at hm
  | x :: l, h, hm => by
    rcases List.mem_cons.1 hm with rfl | hm
    · exact Lib.tabIs_of_head hg hty ht he hce hct h
    · exact tabIs_of_mem hg hty ht he hce hct (laidMet_drop h) hm

theorem laidMetH_plain {P : Program} {l : List (String × DataW Unit)} {w : World} (h : laidMetH P l w) : laidMet P (plainOf l) w := by
  unfold laidMetH at h
  split at h
  · rename_i hnil
    have : plainOf l = l := by
      unfold plainOf
      rw [List.filter_eq_self]
      intro x hx
      have := List.filter_eq_nil_iff.1 hnil x hx
      cases hh : x.2.handleName? with
      | none => rfl
      | some _ => rw [hh] at this; simp at this
    rw [this]; exact h
  · exact h.1

theorem glob_of_tab {P : Program} {W : World} {ρ : Env} {name : String} {k : IntKind} {zs : List Int} {g : Nat} (hg : P.globalNamed name = some g) (h : Lib.TabIs P W name k zs) :
    ∃ a t fr, W.heap[g]? = some (.cells a t fr) ∧ GlobA ρ (zs.map fun z => .int k z) a := by
  unfold Lib.TabIs World.var? at h
  rw [hg] at h
  simp only [Option.bind_some] at h
  split at h
  · rename_i cs t fr hc
    simp only [Option.some.injEq] at h
    subst h
    refine ⟨_, t, fr, hc, fun i v hi => ?_⟩
    rw [List.getElem?_map, Option.map_eq_some_iff] at hi
    obtain ⟨z, hz, rfl⟩ := hi
    exact ⟨.int k z, by simp [hz], by simp [conc]⟩
  · cases h

/-- A tied card of a call that can start goroutines. -/
theorem card_goes (g : Bool) (Lk : Looks) {p : Pinned} {s : OpenSpec} {c : OpenClaim} (kinds : List LaidKind) (tests : Bool) (har : Bool × String) (lk : Bool)
    (hc : c.holds p s) (hw : c.wfByText s = true) (htie : c.laidByTextAt Lk p kinds tests) (hst : c.start = .entering) (hnb : c.noBlocks = false ∧ c.again = false)
    (hm : p.checked.prog.mainIs = some (har.1, har.2.toList)) (hn : (!har.1 && har.2.isEmpty && !lk) = false)
    (hl : ∀ f fn, p.checked.prog.funcNamed c.func = some f → p.checked.prog.funcs[f]? = some fn → lk = p.checked.prog.looks [] ∧ ∀ (j : Nat) t, fn.params[j]? = some t → p.checked.prog.wantsStandIn t = false)
    (hg : g = c.goesBy p.checked.prog) :
    Claim7.holds p (.plain s) { stood := { row := c, standIns := [], harness := har, looks := lk }, kinds := [], alts := [], goes := g, laidByText := true, laidKinds := kinds, laidTests := tests, laidLooks := Lk } := by
  have h6 : Claim7.isSixth { stood := { row := c, standIns := [], harness := har, looks := lk }, kinds := [] } = false := by simpa [Claim7.isSixth] using hn
  exact ⟨Claim7.tied_new_at Lk kinds tests (Claim7.new_of_sixth hc har lk hst hnb hm h6 hl) hw, (fun D hD => by cases hD), htie, (fun h => by cases h), hg⟩

/-- Nothing known, all kept. -/
theorem rel_start (ρ : Env) (nx : Nat) (w : World) (hg : ∀ g cs, ρ.G g = some cs → ∃ a t fr, w.heap[g]? = some (.cells a t fr) ∧ GlobA ρ cs a) : Rel ρ ⟨fun r => w.heap[r]?, w.os, w.tape, w.output⟩ ⟨.nil, nx⟩ w (fun _ => none) :=
  ⟨(fun _ _ h => by cases h), (fun _ _ h => by cases h), (fun _ _ _ _ _ _ h => by cases h), (fun _ _ h => h), (fun _ _ _ _ h => by cases h), ⟨rfl, rfl, rfl⟩, hg⟩

theorem below_of {ρ : Env} {S : St} {w w' : World} {σ : Sig} (h : Rel ρ ⟨fun r => w.heap[r]?, w.os, w.tape, w.output⟩ S w' σ) : RowKit.Below w.heap.size w w' := by
  have hblk : ∀ k, k < w.heap.size → w'.heap[k]? = w.heap[k]? := fun k hk => by
    rw [h.keep k _ (Array.getElem?_eq_getElem hk), Array.getElem?_eq_getElem hk]
  refine ⟨h.rest.1, h.rest.2.1, h.rest.2.2, ?_, hblk⟩
  rcases Nat.lt_or_ge w'.heap.size w.heap.size with hlt | hge
  · have := hblk w'.heap.size hlt
    rw [Array.getElem?_eq_getElem hlt] at this
    simp at this
  · exact hge

def isTrue : Option (AV × St) → Bool
  | some (.bool b, _) => b
  | _ => false

/-- The law's run. -/
theorem calls_true {P : Program} {xt : FuncId → Option Xt} {M : Cal} (hm : P.follows .mixedOrders = true) (hxt : XtOk P xt) {n nx : Nat} {f : FuncId} {args : List AV} {ρ : Env} (hM : CalOk P xt ρ M) (h : isTrue (callx P ρ.G xt M n (.fn false f) args ⟨.nil, nx⟩) = true) {w : World} {xs : List Value}
    (hx : concL ρ (fun _ => none) args = some xs) (hg : ∀ g cs, ρ.G g = some cs → ∃ a t fr, w.heap[g]? = some (.cells a t fr) ∧ GlobA ρ cs a) : Calls P f xs.toArray w fun e w' => e = .returned (.bool true) ∧ RowKit.Below w.heap.size w w' := by
  generalize hc : callx P ρ.G xt M n (.fn false f) args ⟨.nil, nx⟩ = r at h
  unfold isTrue at h
  split at h
  · rename_i b S'
    subst h
    refine (calls_of (ρ := ρ) hm hxt hM hc (rel_start _ nx w hg) hx).mono fun e w' ⟨x, σ', h1, h2, h3⟩ => ?_
    simp only [conc, Option.some.injEq] at h2
    subst h2
    exact ⟨h1, below_of h3⟩
  · cases h
end Go.Sx
