/- What the machine on numbered blocks gives, the model's machine gives: code in the order of the text, and calls. -/
import Derived.Test.YtbnjflmahipanaaGreatDoorSxHeavy
import Derived.Test.YtbnjflmahipanaaGreatDoorSxRun
import Derived.CallsIn
import Derived.LoopNIn
import Derived.DefersIn
import Derived.TacticsIn
namespace Go.Sx
set_option linter.unusedSimpArgs false
set_option linter.unusedVariables false

/-- The widest fence, of an activation of a function or of a round. -/
abbrev Fw (ro : Option Nat) : Fence := { Fence.wide with round := ro }

def DefRel (P : Program) (ρ : Env) (σ : Sig) (a : ADef) (d : Deferred) : Prop :=
  match a with
  | .fn f args => (∃ cap xs, d.target = .fn (.func f) cap ∧ concL ρ σ args = some xs ∧ (d.args ++ cap).toList = xs) ∧ XtOne P f .body
  | .mark b => ∃ e, σ b = some e ∧ d.target = .collected e.blk

theorem DefRel.mono {P : Program} {ρ : Env} {σ σ' : Sig} (h : σ.le σ') {a : ADef} {d : Deferred} (hd : DefRel P ρ σ a d) : DefRel P ρ σ' a d := by
  cases a with
  | fn f args =>
    obtain ⟨⟨cap, xs, h1, h2, h3⟩, hx⟩ := hd
    exact ⟨⟨cap, xs, h1, concL_mono h _ _ h2, h3⟩, hx⟩
  | mark b =>
    obtain ⟨e, he, ht⟩ := hd
    exact ⟨e, h b e he, ht⟩

inductive DefsRel (P : Program) (ρ : Env) (σ : Sig) : List ADef → List Deferred → Prop
  | nil : DefsRel P ρ σ [] []
  | cons {a : ADef} {d : Deferred} {as : List ADef} {ds : List Deferred} : DefRel P ρ σ a d → DefsRel P ρ σ as ds → DefsRel P ρ σ (a :: as) (d :: ds)

theorem DefsRel.mono {P : Program} {ρ : Env} {σ σ' : Sig} (h : σ.le σ') : ∀ {as : List ADef} {ds : List Deferred}, DefsRel P ρ σ as ds → DefsRel P ρ σ' as ds
  | _, _, .nil => .nil
  | _, _, .cons hd r => .cons (hd.mono h) (DefsRel.mono h r)

structure CRel (P : Program) (ρ : Env) (K : Kp) (nt : Nat) (c : Cx) (a : Act) (w : World) (σ : Sig) : Prop where
  rel : Rel ρ K c.S w σ
  size : a.tmps.size = nt
  tmp : ∀ t v, c.T.get t = some v → t < nt ∧ conc ρ σ v = some (a.tmps.getD t undef)
  defs : DefsRel P ρ σ c.D a.defers

def Ex.to : Ex → Exit
  | .normal => .normal
  | .exit id => .exit id
  | .ret => .ret

section
variable {P : Program} {xt : FuncId → Option Xt} {ρ : Env} {K : Kp} {nt : Nat} {c c' : Cx} {a : Act} {w : World} {σ : Sig} {cal : Cal} {rcal : RCal}

theorem aeval_rel (h : CRel P ρ K nt c a w σ) : ER ρ σ (aeval c.T) a.eval := by
  intro x v hv
  cases x with
  | tmp t => exact (h.tmp t v hv).2
  | const u => exact conc_ofValue σ 3 u v hv
  | global g => simp only [aeval, Option.some.injEq] at hv; subst hv; simp [conc, Act.eval]
  | func f => simp only [aeval, Option.some.injEq] at hv; subst hv; simp [conc, concL, Act.eval]

theorem CRel.step (h : CRel P ρ K nt c a w σ) {S' : St} {w' : World} {σ' : Sig} (hR : Rel ρ K S' w' σ') (hx : Ext c.S.next σ σ') : CRel P ρ K nt ⟨c.T, S', c.D⟩ a w' σ' :=
  have hle := h.rel.le hx
  ⟨hR, h.size, fun t v hv => ⟨(h.tmp t v hv).1, conc_mono hle _ _ (h.tmp t v hv).2⟩, h.defs.mono hle⟩

theorem CRel.put (h : CRel P ρ K nt c a w σ) {dst : Option Tmp} {v : AV} {z : Value} {T : Tr AV} (hz : conc ρ σ v = some z) (hp : put nt c.T dst v = some T) : CRel P ρ K nt ⟨T, c.S, c.D⟩ (a.put dst z) w σ := by
  cases dst with
  | none => simp only [Sx.put, Option.some.injEq] at hp; subst hp; exact h
  | some d =>
    simp only [Sx.put] at hp
    split at hp
    · rename_i hd
      have hd : d < nt := by simpa [Nat.blt_eq] using hd
      refine ⟨h.rel, by simp [Act.put, h.size], fun t u hu => ?_, h.defs⟩
      rw [Tr.get_set _ _ _ _ hp t] at hu
      split at hu
      · rename_i ht
        subst ht
        simp only [Option.some.injEq] at hu
        subst hu
        refine ⟨hd, ?_⟩
        rw [hz]
        simp [Act.put, h.size, hd]
      · rename_i ht
        obtain ⟨h1, h2⟩ := h.tmp t u hu
        refine ⟨h1, ?_⟩
        rw [h2]
        simp [Act.put, Array.getD_eq_getD_getElem?, Ne.symm ht]
    · cases hp

/-- What is asked of the functions that are called. -/
def CalOk (P : Program) (xt : FuncId → Option Xt) (ρ : Env) (cal : Cal) : Prop :=
  ∀ (f : FuncId) (args : List AV) (S : St) (v : AV) (S' : St) (K : Kp) (w : World) (σ : Sig) (xs : List Value), cal f args S = some (v, S') → Rel ρ K S w σ → concL ρ σ args = some xs →
    CallsIn Fence.wide 0 P f xs.toArray w fun e w' => ∃ x σ', e = .returned x ∧ conc ρ σ' v = some x ∧ Rel ρ K S' w' σ' ∧ Ext S.next σ σ' ∧ S.next ≤ S'.next

/-- What is asked of the rounds. -/
def RCalOk (P : Program) (ρ : Env) (rcal : RCal) : Prop :=
  ∀ (b : Nat) (args : List AV) (S : St) (v : AV) (S' : St) (K : Kp) (w : World) (σ : Sig) (xs : List Value), rcal b args S = some (v, S') → Rel ρ K S w σ → concL ρ σ args = some xs →
    ∃ en fn tmps assign body, σ b = some en ∧ (Instr.yield en.blk xs.toArray).run P w = .ok (.round en.blk fn tmps assign body) w ∧
      RoundIn Fence.wide 0 P en.blk fn tmps assign body w fun e w' => ∃ x σ', e = .returned x ∧ conc ρ σ' v = some x ∧ Rel ρ K S' w' σ' ∧ Ext S.next σ σ' ∧ S.next ≤ S'.next

theorem undef_conc : conc ρ σ (.tuple []) = some undef := by simp [conc, concL, undef]

/-- What an operation does for those that follow. -/
theorem aop_sound (hxt : XtOk P xt) (hcal : CalOk P xt ρ cal) (hrcal : RCalOk P ρ rcal) {ro : Option Nat} {o : Oper} (h : aop P ρ.G xt cal rcal ro.isSome nt o c = some c') (hc : CRel P ρ K nt c a w σ) {next : Act → World → Prop} {Q : Exit → Act → World → Prop}
    (hk : ∀ a' w' σ', CRel P ρ K nt c' a' w' σ' → Ext c.S.next σ σ' → c.S.next ≤ c'.S.next → next a' w') : o.wpIn (Fw ro) 0 P a w next Q := by
  refine ⟨fun _ _ => trivial, ?_⟩
  have her := aeval_rel hc
  have value : ∀ {s : Sem Next} {v : AV} {S' : St} {w' : World} {σ' : Sig} {nx : Next}, s.run P w = .ok nx w' → ((nx = .skip ∧ v = .tuple []) ∨ ∃ z, nx = .value z ∧ conc ρ σ' v = some z) →
      Rel ρ K S' w' σ' → Ext c.S.next σ σ' → c.S.next ≤ S'.next → ((put nt c.T o.dst v).bind fun T => some ⟨T, S', c.D⟩) = some c' → o.uponIn (Fw ro) 0 P a next Q (s.run P w) := by
    intro s v S' w' σ' nx hs hv hR hx hn hp
    simp only [Option.bind_eq_some_iff, Option.some.injEq] at hp
    obtain ⟨T, hp, rfl⟩ := hp
    rw [hs]
    have h1 := hc.step hR hx
    rcases hv with ⟨rfl, rfl⟩ | ⟨z, rfl, hz⟩
    · exact hk _ _ σ' (h1.put undef_conc hp) hx hn
    · exact hk _ _ σ' (h1.put hz hp) hx hn
  unfold aop at h
  split at h
  · rename_i hcl
    have hsem : o.semAt ro a.eval = execOp a.eval o := Oper.semAt_eq _ _ _ (fun d hd => by simp [classOf, hd] at hcl)
    simp only [Option.bind_eq_some_iff] at h
    obtain ⟨v, hv, hp⟩ := h
    obtain ⟨z, h1, h2⟩ := run_apure her hv w
    show o.uponIn _ _ _ _ _ _ ((o.semAt ro a.eval).run P w)
    rw [hsem]
    exact value h1 (.inr ⟨z, rfl, h2⟩) hc.rel (Ext.refl _ _) (Nat.le_refl _) (by simpa only [Option.bind_eq_some_iff] using hp)
  · rename_i hcl
    have hsem : o.semAt ro a.eval = execOp a.eval o := Oper.semAt_eq _ _ _ (fun d hd => by simp [classOf, hd] at hcl)
    simp only [Option.bind_eq_some_iff] at h
    obtain ⟨v, hv, hp⟩ := h
    obtain ⟨z, h1, h2⟩ := run_aread her hc.rel.obj hc.rel.globs hc.rel.sep hv
    show o.uponIn _ _ _ _ _ _ ((o.semAt ro a.eval).run P w)
    rw [hsem]
    exact value h1 (.inr ⟨z, rfl, h2⟩) hc.rel (Ext.refl _ _) (Nat.le_refl _) (by simpa only [Option.bind_eq_some_iff] using hp)
  · rename_i hcl
    have hsem : o.semAt ro a.eval = execOp a.eval o := Oper.semAt_eq _ _ _ (fun d hd => by simp [classOf, hd] at hcl)
    simp only [Option.bind_eq_some_iff] at h
    obtain ⟨⟨v, ob⟩, hv, ⟨id, S1⟩, hS, hp⟩ := h
    obtain ⟨z, cc, h1, _, h2⟩ := run_aalloc her hv w
    obtain ⟨r1, r2, r3, r4⟩ := hc.rel.new (e := ⟨w.heap.size, 0, 0, 0⟩) hS rfl (fun σ' hle => (h2 σ' hle).1)
    subst r1
    show o.uponIn _ _ _ _ _ _ ((o.semAt ro a.eval).run P w)
    rw [hsem]
    exact value h1 (.inr ⟨z, rfl, (h2 _ (hc.rel.le r4)).2 (by simp [Sig.put])⟩) r3 r4 (by omega) (by simpa only [Option.bind_eq_some_iff] using hp)
  · by_cases hdf : ∃ d, o.op = .defer d
    · obtain ⟨d, hd⟩ := hdf
      simp only [hd] at h
      split at h
      · cases h
      · rename_i hro
        have hro : ro = none := by cases ro <;> simp_all
        subst hro
        split at h
        · rename_i f hcal
          simp only [Option.bind_eq_some_iff] at h
          obtain ⟨fv, hfv, args, hargs, h⟩ := h
          split at h
          · rename_i g first cap
            simp only [Option.bind_eq_some_iff, Option.some.injEq] at h
            obtain ⟨_, hx, T, hp, rfl⟩ := h
            have hx : xt g = some .body := by split at hx <;> first | assumption | cases hx
            have hfv' := her _ _ hfv
            simp only [conc, Option.bind_eq_some_iff, Option.some.injEq] at hfv'
            obtain ⟨fs, hfs, cs, hcs, hfe⟩ := hfv'
            have hargs' := evL_rel her hargs
            have hrun : (o.semAt none a.eval).run P w = .ok (.defer { target := .fn (.func g) cs.toArray, args := fs.toArray ++ d.args.map a.eval }) w := by
              rw [Oper.semAt_none]
              simp only [execOp, hd, resolve, hcal, ← hfe, Deferred.ofValue, Sem.run_bind, Sem.run_pure, Result.andThen_ok]
            show o.uponIn _ _ _ _ _ _ ((o.semAt none a.eval).run P w)
            rw [hrun]
            refine hk _ _ σ ?_ (Ext.refl _ _) (Nat.le_refl _)
            have h1 : CRel P ρ K nt ⟨c.T, c.S, .fn g (first ++ args ++ cap) :: c.D⟩ { a with defers := { target := .fn (.func g) cs.toArray, args := fs.toArray ++ d.args.map a.eval } :: a.defers } w σ :=
              ⟨hc.rel, hc.size, hc.tmp, .cons ⟨⟨cs.toArray, _, rfl, concL_append (concL_append hfs hargs') hcs, by simp⟩, hxt g _ hx⟩ hc.defs⟩
            exact h1.put undef_conc hp
          · cases h
        · cases h
    · have hsem : o.semAt ro a.eval = execOp a.eval o := Oper.semAt_eq _ _ _ (fun d hd => hdf ⟨d, hd⟩)
      have h : ((aheavy P xt (aeval c.T) c.S o).bind fun hv => match hv with
          | .val v S => (put nt c.T o.dst v).bind fun T => some ⟨T, S, c.D⟩
          | .enter f args => (cal f args c.S).bind fun (v, S) => (put nt c.T o.dst v).bind fun T => some ⟨T, S, c.D⟩
          | .round b args => (rcal b args c.S).bind fun (v, S) => (put nt c.T o.dst v).bind fun T => some ⟨T, S, c.D⟩) = some c' := by
        split at h
        · rename_i d hd; exact absurd ⟨d, hd⟩ hdf
        · exact h
      simp only [Option.bind_eq_some_iff] at h
      obtain ⟨hv, hhv, h⟩ := h
      have hok := run_aheavy hc.rel her hxt hhv
      show o.uponIn _ _ _ _ _ _ ((o.semAt ro a.eval).run P w)
      rw [hsem]
      cases hv with
      | val v S =>
        obtain ⟨nx, w', σ', h1, h2, h3, h4, h5⟩ := hok
        exact value h1 h2 h3 h4 h5 h
      | enter f args =>
        obtain ⟨xs, h1, h2⟩ := hok
        rw [h1]
        simp only [Option.bind_eq_some_iff] at h
        obtain ⟨⟨v, S'⟩, hcl, T, hp, h⟩ := h
        simp only [Option.some.injEq] at h
        subst h
        refine ⟨fun h => (by cases h), ?_⟩
        have := hcal f args c.S v S' K w σ xs.toList hcl hc.rel h2
        refine CallsIn.mono this ?_
        rintro e w' ⟨x, σ', rfl, hx, hR, hE, hn⟩
        exact hk _ _ σ' ((hc.step hR hE).put hx hp) hE hn
      | round b args =>
        obtain ⟨en, xs, h0, h1, h2⟩ := hok
        simp only [Option.bind_eq_some_iff] at h
        obtain ⟨⟨v, S'⟩, hcl, T, hp, h⟩ := h
        simp only [Option.some.injEq] at h
        subst h
        obtain ⟨en', fn, tmps, assign, body, q0, q1, q2⟩ := hrcal b args c.S v S' K w σ xs.toList hcl hc.rel h2
        rw [h0] at q0
        simp only [Option.some.injEq] at q0
        subst q0
        rw [h1, q1]
        refine ⟨fun h => (by cases h), ?_⟩
        refine RoundIn.mono q2 ?_
        rintro e w' ⟨x, σ', rfl, hx, hR, hE, hn⟩
        exact hk _ _ σ' ((hc.step hR hE).put hx hp) hE hn


theorem wanted_of' {ops : Array Oper} {o : Oper} {b : Bool} {T : Tr AV} (h : awanted ops T o = some b)
    (hT : ∀ j want t, o.guard = some (j, want) → (ops[j]?).bind (·.dst) = some t → ∀ v, T.get t = some v → t < a.tmps.size ∧ conc ρ σ v = some (a.tmps.getD t undef)) : Region.wanted o (yielded ops a.tmps) = b := by
  unfold awanted at h
  unfold Region.wanted
  split at h
  · rename_i hg
    simp only [Option.some.injEq] at h
    subst h
    simp [hg]
  · rename_i j want hg
    simp only [hg]
    split at h
    · rename_i hd
      simp only [Option.some.injEq] at h
      subst h
      simp [yielded, hd]
    · rename_i t hd
      simp only [Option.bind_eq_some_iff] at h
      obtain ⟨v, hv, h⟩ := h
      obtain ⟨hlt, hz⟩ := hT j want t hg hd v hv
      have hget : a.tmps[t]? = some a.tmps[t] := Array.getElem?_eq_getElem hlt
      have hD : a.tmps.getD t undef = a.tmps[t] := by simp [hlt]
      rw [hD] at hz
      split at h
      · rename_i b'
        simp only [Option.some.injEq] at h
        simp only [conc, Option.some.injEq] at hz
        subst h
        simp only [yielded, hd, Option.bind_some, hget, ← hz]
        cases b' <;> cases want <;> rfl
      · rename_i cs
        simp only [Option.some.injEq] at h
        subst h
        simp only [conc, Option.bind_eq_some_iff, Option.some.injEq] at hz
        obtain ⟨l, _, hz⟩ := hz
        simp only [yielded, hd, Option.bind_some, hget, ← hz]
        rfl
      · cases h

theorem wanted_of {ops : Array Oper} {o : Oper} {b : Bool} (h : awanted ops c.T o = some b) (hc : CRel P ρ K nt c a w σ) : Region.wanted o (yielded ops a.tmps) = b :=
  wanted_of' h fun _ _ t _ _ v hv => ⟨by rw [hc.size]; exact (hc.tmp t v hv).1, (hc.tmp t v hv).2⟩

theorem aops_sound (hxt : XtOk P xt) (hcal : CalOk P xt ρ cal) (hrcal : RCalOk P ρ rcal) {ro : Option Nat} {ops : Array Oper} {Q : Exit → Act → World → Prop} : ∀ {l : List Oper} {c : Cx} {a : Act} {w : World} {σ : Sig},
    aops P ρ.G xt cal rcal ro.isSome nt ops l c = some c' → CRel P ρ K nt c a w σ →
    (∀ a' w' σ', CRel P ρ K nt c' a' w' σ' → Ext c.S.next σ σ' → c.S.next ≤ c'.S.next → Q .normal a' w') → wpListIn (Fw ro) 0 P ops Q l a w
  | [], c, a, w, σ, h, hc, hk => by
    simp only [aops, Option.some.injEq] at h
    subst h
    exact hk a w σ hc (Ext.refl _ _) (Nat.le_refl _)
  | o :: l, c, a, w, σ, h, hc, hk => by
    simp only [aops, Option.bind_eq_some_iff] at h
    obtain ⟨b, hb, h⟩ := h
    unfold wpListIn
    rw [wanted_of hb hc]
    cases b with
    | true =>
      simp only [if_true, Option.bind_eq_some_iff] at h
      obtain ⟨c1, h1, h2⟩ := h
      simp only [if_true]
      exact aop_sound hxt hcal hrcal h1 hc fun a' w' σ' hc' hx hn => aops_sound hxt hcal hrcal h2 hc' fun a'' w'' σ'' hc'' hx' hn' => hk _ _ _ hc'' (hx.trans hx' hn) (Nat.le_trans hn hn')
    | false =>
      simp only [Bool.false_eq_true, if_false, Option.bind_eq_some_iff] at h
      obtain ⟨T, hT, h⟩ := h
      simp only [Bool.false_eq_true, if_false]
      exact ⟨fun _ _ => trivial, aops_sound hxt hcal hrcal h (hc.put undef_conc hT) hk⟩

end
end Go.Sx
