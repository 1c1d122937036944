/- Calls: sound. -/
import Derived.Test.YtbnjflmahipanaaGreatDoorSxExec
import Derived.RangeFuncLeaves
import Derived.RecoverIn
namespace Go.Sx
set_option linter.unusedSimpArgs false
set_option linter.unusedVariables false

section
variable {P : Program} {xt : FuncId → Option Xt} {ρ : Env} {K : Kp}

theorem initT_get : ∀ {l : List AV} {i : Nat} {T T' : Tr AV}, initT i l T = some T' → ∀ t, T'.get t = if i ≤ t ∧ t < i + l.length then l[t - i]? else T.get t
  | [], i, T, T', h, t => by
    simp only [initT, Option.some.injEq] at h
    subst h
    rw [if_neg (by simp)]
  | v :: l, i, T, T', h, t => by
    simp only [initT, Option.bind_eq_some_iff] at h
    obtain ⟨T1, h1, h2⟩ := h
    rw [initT_get h2 t]
    by_cases hi : t = i
    · subst hi
      rw [if_neg (by omega), if_pos (by simp)]
      rw [Tr.get_set _ _ _ _ h1]
      simp
    · by_cases hr : i + 1 ≤ t ∧ t < i + 1 + l.length
      · rw [if_pos hr, if_pos (by simp; omega)]
        have : t - i = (t - (i + 1)) + 1 := by omega
        rw [this, List.getElem?_cons_succ]
      · rw [if_neg hr, if_neg (by simp; omega), Tr.get_set _ _ _ _ h1, if_neg hi]

theorem initT_rel {S : St} {w : World} {σ : Sig} {nt : Nat} {args : List AV} {xs : List Value} {T : Tr AV} (hT : initT 0 args .nil = some T) (hl : args.length ≤ nt) (hR : Rel ρ K S w σ) (hx : concL ρ σ args = some xs) :
    CRel P ρ K nt ⟨T, S, []⟩ { tmps := xs.toArray ++ Array.replicate (nt - xs.toArray.size) undef, defers := [] } w σ := by
  have hlen := concL_length hx
  refine ⟨hR, by simp; omega, fun t v hv => ?_, .nil⟩
  simp only [initT_get hT t, Nat.zero_le, true_and, Nat.zero_add, Nat.sub_zero, Tr.get_nil] at hv
  split at hv
  · rename_i ht
    have h1 := concL_get hx t
    rw [hv] at h1
    simp only [Option.bind_some] at h1
    refine ⟨by omega, ?_⟩
    rw [h1]
    have : t < xs.length := by omega
    simp [Array.getD_eq_getD_getElem?, Array.getElem?_append, this]
  · cases hv

theorem results_list {T : Tr AV} {S : St} {w : World} {σ : Sig} {tmps : Array Value} (hT : ∀ t v, T.get t = some v → conc ρ σ v = some (tmps.getD t undef)) (hR : Rel ρ K S w σ) :
    ∀ {l : List ResultVar} {vs : List AV}, aresults P T S l = some vs → ∃ xs, (l.mapM (m := Sem) fun
      | .tmp t => pure (tmps.getD t undef)
      | .cell a t => do loadVar t (← asAddr (tmps.getD a undef))).run P w = .ok xs w ∧ concL ρ σ vs = some xs
  | [], vs, h => by
    simp only [aresults, Option.some.injEq] at h
    subst h
    exact ⟨[], by simp [Sem.run_pure], rfl⟩
  | .tmp t :: l, vs, h => by
    simp only [aresults, Option.bind_eq_some_iff, Option.some.injEq] at h
    obtain ⟨v, hv, vs', h, rfl⟩ := h
    obtain ⟨xs, h1, h2⟩ := results_list hT hR h
    refine ⟨tmps.getD t undef :: xs, ?_, by simp [concL, hT t v hv, h2]⟩
    simp only [List.mapM_cons, Sem.run_bind, Sem.run_pure, Result.andThen_ok, h1]
  | .cell a t :: l, vs, h => by
    simp only [aresults, Option.bind_eq_some_iff] at h
    obtain ⟨p, hp, h⟩ := h
    split at h
    · rename_i b off
      simp only [Option.bind_eq_some_iff] at h
      obtain ⟨ob, hob, h⟩ := h
      split at h
      · rename_i cs g kin el
        simp only [Option.bind_eq_some_iff, Option.some.injEq] at h
        obtain ⟨v, ⟨ag, hag, hv⟩, vs', h, rfl⟩ := h
        obtain ⟨xs, h1, h2⟩ := results_list hT hR h
        obtain ⟨e, he, hpe⟩ := inv_ptr (hT a _ hp)
        obtain ⟨e', he', hcr⟩ := hR.obj b _ hob
        rw [he] at he'
        simp only [Option.some.injEq] at he'
        subst he'
        obtain ⟨x, hx1, hx2⟩ := run_loadVar (P := P) (t := t) (off := off) (v := v) hcr (by simp only [Option.bind_eq_some_iff]; exact ⟨ag, hag, by simpa only [Option.bind_eq_some_iff] using hv⟩)
        refine ⟨x :: xs, ?_, by simp [concL, hx2, h2]⟩
        have hA : asAddr (tmps.getD a undef) = (pure ⟨e.blk, e.off + off, none⟩ : Sem Addr) := by rw [hpe]; rfl
        simp only [List.mapM_cons, Sem.run_bind, Sem.run_pure, Result.andThen_ok, hA, hx1]
        rw [h1]; rfl
      · rename_i A m z
        simp only [Option.bind_eq_some_iff, Option.some.injEq] at h
        obtain ⟨v, ⟨ag, hag, hv⟩, vs', h, rfl⟩ := h
        obtain ⟨xs, h1, h2⟩ := results_list hT hR h
        obtain ⟨e, he, hpe⟩ := inv_ptr (hT a _ hp)
        obtain ⟨e', he', hcr⟩ := hR.obj b _ hob
        rw [he] at he'
        simp only [Option.some.injEq] at he'
        subst he'
        obtain ⟨x, hx1, hx2⟩ := run_loadArr (P := P) (t := t) (off := off) (v := v) hcr (by simp only [Option.bind_eq_some_iff]; exact ⟨ag, hag, by simpa only [Option.bind_eq_some_iff] using hv⟩)
        refine ⟨x :: xs, ?_, by simp [concL, hx2, h2]⟩
        have hA : asAddr (tmps.getD a undef) = (pure ⟨e.blk, e.off + off, none⟩ : Sem Addr) := by rw [hpe]; rfl
        simp only [List.mapM_cons, Sem.run_bind, Sem.run_pure, Result.andThen_ok, hA, hx1]
        rw [h1]; rfl
      · cases h
    · cases h

theorem results_run {T : Tr AV} {S : St} {w : World} {σ : Sig} {tmps : Array Value} {fn : Func} {vs : List AV} (hT : ∀ t v, T.get t = some v → conc ρ σ v = some (tmps.getD t undef)) (hR : Rel ρ K S w σ)
    (h : aresults P T S fn.results.toList = some vs) : ∃ x, (results fn tmps).run P w = .ok x w ∧ conc ρ σ (single vs) = some x := by
  obtain ⟨xs, h1, h2⟩ := results_list hT hR h
  have hm : (fn.results.mapM (m := Sem) fun
      | .tmp t => pure (tmps.getD t undef)
      | .cell a t => do loadVar t (← asAddr (tmps.getD a undef))).run P w = .ok xs.toArray w := by
    rw [Array.mapM_eq_mapM_toList]
    show Sem.run P (List.mapM _ fn.results.toList >>= fun l => pure l.toArray) w = _
    rw [Sem.run_bind, h1]
    rfl
  have hlen := concL_length h2
  unfold results
  simp only [Sem.run_bind]
  rw [show (fn.results.mapM (m := Sem) _) = _ from rfl]
  erw [hm]
  simp only [Result.andThen_ok, Sem.run_pure]
  match vs, xs, hlen, h2 with
  | [], [], _, _ => exact ⟨_, rfl, by simp [single, conc, concL]⟩
  | [v], [x], _, h2 =>
    refine ⟨x, rfl, ?_⟩
    simp only [concL, Option.bind_eq_some_iff, Option.some.injEq] at h2
    obtain ⟨x', h2, _, rfl, h3⟩ := h2
    simp only [List.cons.injEq, and_true] at h3
    subst h3
    exact h2
  | v :: v' :: vs, x :: x' :: xs, hlen, h2 =>
    refine ⟨.tuple (x :: x' :: xs).toArray, ?_, ?_⟩
    · rw [dif_neg (by simp)]
    · simp only [single, conc, h2, Option.bind_some]


/-- What is asked of the functions whose calls are put off. -/
def CalDOk (P : Program) (ρ : Env) (cal : Cal) : Prop :=
  ∀ (f : FuncId) (args : List AV) (S : St) (v : AV) (S' : St) (K : Kp) (w : World) (σ : Sig) (xs : List Value), cal f args S = some (v, S') → Rel ρ K S w σ → concL ρ σ args = some xs →
    CallsDIn Fence.wide 0 P f xs.toArray .returning w fun e u' w' => u' = .returning ∧ ∃ x σ', e = .returned x ∧ conc ρ σ' v = some x ∧ Rel ρ K S' w' σ' ∧ Ext S.next σ σ' ∧ S.next ≤ S'.next

theorem adefers_sound {cal : Cal} (hcal : CalDOk P ρ cal) {fn : Func} {tmps : Array Value} {R : Ending → World → Prop} {S' : St} : ∀ {D : List ADef} {ds : List Deferred} {S : St} {w : World} {σ : Sig},
    adefers cal D S = some S' → DefsRel P ρ σ D ds → Rel ρ K S w σ →
    (∀ w' σ', Rel ρ K S' w' σ' → Ext S.next σ σ' → S.next ≤ S'.next → ∃ v, (results fn tmps).run P w' = .ok v w' ∧ R (.returned v) w') →
    LeavesInM Fence.wide 0 P fn tmps R ds .returning w
  | [], _, S, w, σ, h, .nil, hR, hk => by
    simp only [adefers, Option.some.injEq] at h
    subst h
    exact hk w σ hR (Ext.refl _ _) (Nat.le_refl _)
  | .fn f args :: D, _, S, w, σ, h, .cons (d := dd) (ds := ds) ⟨⟨cap, xs, h1, h2, h3⟩, hx⟩ hr, hR, hk => by
    simp only [adefers, Option.bind_eq_some_iff] at h
    obtain ⟨⟨v, S1⟩, hc, h⟩ := h
    obtain ⟨tg, dargs⟩ := dd
    dsimp only at h1 h3
    subst h1
    have hinv : (invoke (.fn (.func f) cap) dargs).run P w = .ok (.enter f (dargs ++ cap)) w := hx _ w
    refine ⟨by simp, .inr ⟨(fun h => by cases h), .func f, cap, f, dargs ++ cap, rfl, hinv, fun _ _ => trivial, ?_⟩⟩
    have hxs : dargs ++ cap = xs.toArray := by rw [← h3]
    rw [hxs]
    refine CallsDIn.mono (hcal f args S v S1 K w σ xs hc hR h2) ?_
    rintro e u' w' ⟨rfl, x, σ', rfl, hx1, hR1, hE, hn⟩
    exact adefers_sound hcal h (hr.mono (hR.le hE)) hR1 fun w'' σ'' hR2 hE' hn' => hk w'' σ'' hR2 (hE.trans hE' hn) (Nat.le_trans hn hn')
  | .mark b :: D, _, S, w, σ, h, .cons (d := dd) (ds := ds) ⟨e, he, ht⟩ hr, hR, hk => by
    simp only [adefers, Option.bind_eq_some_iff] at h
    obtain ⟨ob, hob, h⟩ := h
    split at h
    · obtain ⟨e', he', ho⟩ := hR.obj b _ hob
      rw [he] at he'
      simp only [Option.some.injEq] at he'
      subst he'
      have hR1 := hR.dropPut (ob := .deferred none) hob he rfl
      refine ⟨by simp, .inl ⟨e.blk, _, ht, run_takeDeferred ho, ?_⟩⟩
      exact adefers_sound hcal h hr hR1 hk
    · cases h

/-! ### A round's parameters -/

theorem setPs_rel {nt : Nat} {σ : Sig} : ∀ {ps : List Tmp} {args : List AV} {xs : List Value} {T T' : Tr AV} {tmps : Array Value}, setPs nt ps args T = some T' → concL ρ σ args = some xs → tmps.size = nt →
    (∀ t v, T.get t = some v → t < nt ∧ conc ρ σ v = some (tmps.getD t undef)) →
    xs.length = ps.length ∧ ((ps.zip xs).foldl (fun (tmps : Array Value) (p : Tmp × Value) => tmps.setIfInBounds p.1 p.2) tmps).size = nt ∧
      ∀ t v, T'.get t = some v → t < nt ∧ conc ρ σ v = some (((ps.zip xs).foldl (fun (tmps : Array Value) (p : Tmp × Value) => tmps.setIfInBounds p.1 p.2) tmps).getD t undef)
  | [], [], xs, T, T', tmps, h, hx, hs, hT => by
    simp only [setPs, Option.some.injEq] at h
    simp only [concL, Option.some.injEq] at hx
    subst h; subst hx
    exact ⟨rfl, hs, hT⟩
  | p :: ps, v :: vs, xs, T, T', tmps, h, hx, hs, hT => by
    simp only [setPs, Option.bind_eq_some_iff] at h
    obtain ⟨T1, h1, h2⟩ := h
    simp only [concL, Option.bind_eq_some_iff, Option.some.injEq] at hx
    obtain ⟨y, hy, ys, hys, rfl⟩ := hx
    simp only [put] at h1
    split at h1
    · rename_i hp
      have hp : p < nt := by simpa using hp
      have hT1 : ∀ t v, T1.get t = some v → t < nt ∧ conc ρ σ v = some ((tmps.setIfInBounds p y).getD t undef) := by
        intro t u hu
        rw [Tr.get_set _ _ _ _ h1 t] at hu
        split at hu
        · rename_i ht
          subst ht
          simp only [Option.some.injEq] at hu
          subst hu
          exact ⟨hp, by rw [hy]; simp [hs, hp]⟩
        · rename_i ht
          obtain ⟨q1, q2⟩ := hT t u hu
          refine ⟨q1, ?_⟩
          rw [q2]
          simp [Array.getD_eq_getD_getElem?, Ne.symm ht]
      obtain ⟨r1, r2, r3⟩ := setPs_rel h2 hys (by simp [hs]) hT1
      exact ⟨by simp [r1], by simpa using r2, by simpa using r3⟩
    · cases h1
  | [], _ :: _, xs, T, T', tmps, h, hx, hs, hT => by cases h
  | _ :: _, [], xs, T, T', tmps, h, hx, hs, hT => by cases h

theorem apures_sound {nt : Nat} {σ : Sig} {w : World} {cs : List Frame} {ops : Array Oper} {Q : Exit → Act → List Frame → World → Prop} : ∀ {l : List Oper} {i : Nat} {T T' : Tr AV} {a : Act},
    apures P nt l T = some T' → (∀ j, l[j]? = ops[i + j]?) → i + l.length = ops.size → a.tmps.size = nt → (∀ t v, T.get t = some v → t < nt ∧ conc ρ σ v = some (a.tmps.getD t undef)) →
    (∀ a', a'.defers = a.defers → a'.tmps.size = nt → (∀ t v, T'.get t = some v → t < nt ∧ conc ρ σ v = some (a'.tmps.getD t undef)) → Q .normal a' cs w) →
    wpOpsSIn Fence.wide 0 P ops Q (List.range' i l.length) a cs w
  | [], i, T, T', a, h, _, _, hs, hT, hk => by
    simp only [apures, Option.some.injEq] at h
    subst h
    exact hk a rfl hs hT
  | o :: l, i, T, T', a, h, hl, hi, hs, hT, hk => by
    simp only [apures] at h
    split at h
    · rename_i hg hcl
      simp only [Option.bind_eq_some_iff] at h
      obtain ⟨v, hv, T1, hp, h⟩ := h
      have ho : ops[i]? = some o := by simpa using (hl 0).symm
      have hl' : ∀ j, l[j]? = ops[i + 1 + j]? := fun j => by have := hl (j + 1); simpa [Nat.add_assoc, Nat.add_comm 1 j] using this
      have her : ER ρ σ (aeval T) a.eval := by
        intro x v hv
        cases x with
        | tmp t => exact (hT t v hv).2
        | const u => exact conc_ofValue σ 3 u v hv
        | global g => simp only [aeval, Option.some.injEq] at hv; subst hv; simp [conc, Act.eval]
        | func f => simp only [aeval, Option.some.injEq] at hv; subst hv; simp [conc, concL, Act.eval]
      obtain ⟨z, h1, h2⟩ := run_apure her hv w
      simp only [List.length_cons, List.range'_succ, wpOpsSIn, ho]
      refine ⟨fun _ _ => trivial, ?_⟩
      have hw : Region.wanted o (yielded ops a.tmps) = true := by simp [Region.wanted, hg]
      simp only [hw, if_true, h1]
      have hput : (a.put o.dst z).tmps.size = nt ∧ (a.put o.dst z).defers = a.defers ∧ ∀ t v, T1.get t = some v → t < nt ∧ conc ρ σ v = some ((a.put o.dst z).tmps.getD t undef) := by
        cases hd : o.dst with
        | none =>
          rw [hd] at hp
          simp only [put, Option.some.injEq] at hp
          subst hp
          exact ⟨hs, rfl, hT⟩
        | some d =>
          rw [hd] at hp
          simp only [put] at hp
          split at hp
          · rename_i hdn
            have hdn : d < nt := by simpa using hdn
            refine ⟨by simp [Act.put, hs], by simp [Act.put], fun t u hu => ?_⟩
            rw [Tr.get_set _ _ _ _ hp t] at hu
            split at hu
            · rename_i ht
              subst ht
              simp only [Option.some.injEq] at hu
              subst hu
              exact ⟨hdn, by rw [h2]; simp [Act.put, hs, hdn]⟩
            · rename_i ht
              obtain ⟨q1, q2⟩ := hT t u hu
              refine ⟨q1, ?_⟩
              rw [q2]
              simp [Act.put, Array.getD_eq_getD_getElem?, Ne.symm ht]
          · cases hp
      exact apures_sound h hl' (by simp at hi; omega) hput.1 hput.2.2 fun a' ha' hs' hT' => hk a' (ha'.trans hput.2.1) hs' hT'
    · cases h

theorem recFirst_spec {body rest : Code} {dst : Option Tmp} {l : List Oper} (h : recFirst body = some (dst, l, rest)) :
    ∃ id ops o c, body = .seq (.region id ops false) rest ∧ ops.toList = o :: l ∧ o.op = .call c ∧ c.callee = .builtin .recover ∧ o.guard = none ∧ o.dst = dst := by
  unfold recFirst at h
  split at h
  · rename_i id ops rest'
    split at h
    · rename_i o l' ho
      split at h
      · rename_i c1 c2 hop hg
        simp only [Option.some.injEq, Prod.mk.injEq] at h
        obtain ⟨rfl, rfl, rfl⟩ := h
        exact ⟨id, ops, o, _, rfl, ho, hop, rfl, hg, rfl⟩
      · cases h
    · cases h
  · cases h

theorem callx_sound {M : Cal} (hm : P.follows .mixedOrders = true) (hxt : XtOk P xt) (hM : CalOk P xt ρ M) : ∀ n, CalOk P xt ρ (fun f => callx P ρ.G xt M n (.fn false f)) ∧ CalDOk P ρ (fun f => callx P ρ.G xt M n (.fn true f)) ∧ RCalOk P ρ (fun b => callx P ρ.G xt M n (.yield b))
  | 0 => ⟨(fun _ _ _ _ _ _ _ _ _ h => by cases h), (fun _ _ _ _ _ _ _ _ _ h => by cases h), (fun _ _ _ _ _ _ _ _ _ h => by cases h)⟩
  | n + 1 => by
    obtain ⟨ih1, ih2, ih3⟩ := callx_sound hm hxt hM n
    refine ⟨?_, ?_, ?_⟩
    · intro f args S v S' K w σ xs h hR hx
      simp only [callx, Bool.false_eq_true, if_false] at h
      split at h
      · rename_i hMr
        simp only [Option.some.injEq] at h
        subst h
        exact hM f args S v S' K w σ xs hMr hR hx
      simp only [Option.bind_eq_some_iff] at h
      obtain ⟨fn, hf, body, hb, h⟩ := h
      split at h
      · rename_i hle
        have hle : args.length ≤ fn.ntmps := by simpa using hle
        simp only [Option.bind_eq_some_iff] at h
        obtain ⟨T, hT, ⟨e, c⟩, he, h⟩ := h
        refine callsIn_of_wp_marks hf hb trivial ?_
        refine (exec_sound hm hxt ih1 ih3 (ro := none) n he (initT_rel hT hle hR hx) fun a' w' σ' hc hE hn => ?_).1
        dsimp only at hE hn
        have post : ((adefers (fun f => callx P ρ.G xt M n (.fn true f)) c.D c.S).bind fun S' => (aresults P c.T S' fn.results.toList).bind fun vs => some (single vs, S')) = some (v, S') →
            LeavesInM Fence.wide 0 P fn a'.tmps (fun e w' => ∃ x σ', e = .returned x ∧ conc ρ σ' v = some x ∧ Rel ρ K S' w' σ' ∧ Ext S.next σ σ' ∧ S.next ≤ S'.next) a'.defers .returning w' := by
          intro h
          simp only [Option.bind_eq_some_iff, Option.some.injEq, Prod.mk.injEq] at h
          obtain ⟨S1, h1, vs, h2, rfl, rfl⟩ := h
          refine adefers_sound ih2 h1 hc.defs hc.rel fun w'' σ'' hR2 hE2 hn2 => ?_
          have hle2 := hc.rel.le hE2
          obtain ⟨x, hx1, hx2⟩ := results_run (fn := fn) (tmps := a'.tmps) (fun t v hv => conc_mono hle2 _ _ (hc.tmp t v hv).2) hR2 h2
          exact ⟨x, hx1, x, σ'', rfl, hx2, hR2, hE.trans hE2 hn, Nat.le_trans hn hn2⟩
        cases e with
        | exit id => cases h
        | normal => exact post h
        | ret => exact post h
      · cases h
    · intro f args S v S' K w σ xs h hR hx
      simp only [callx, if_true, Option.bind_eq_some_iff] at h
      obtain ⟨fn, hf, body, hb, h⟩ := h
      split at h
      · rename_i hle
        have hle : args.length ≤ fn.ntmps := by simpa using hle
        simp only [Option.bind_eq_some_iff] at h
        obtain ⟨T, hT, ⟨e, c⟩, he, h⟩ := h
        have post : ∀ (a' : Act) (w' : World) (σ' : Sig), CRel P ρ K fn.ntmps c a' w' σ' → Ext S.next σ σ' → S.next ≤ c.S.next → (match c.D with
              | [] => (aresults P c.T c.S fn.results.toList).bind fun vs => some (single vs, c.S)
              | _ :: _ => none) = some (v, S') →
            a'.defers = [] ∧ ∃ y, (results fn a'.tmps).run P w' = .ok y w' ∧ ∃ x σ', Ending.returned y = .returned x ∧ conc ρ σ' v = some x ∧ Rel ρ K S' w' σ' ∧ Ext S.next σ σ' ∧ S.next ≤ S'.next := by
          intro a' w' σ' hc hE hn h
          have hd := hc.defs
          split at h
          · rename_i hD
            rw [hD] at hd
            simp only [Option.bind_eq_some_iff, Option.some.injEq, Prod.mk.injEq] at h
            obtain ⟨vs, h2, rfl, rfl⟩ := h
            refine ⟨by generalize a'.defers = l at hd; cases hd; rfl, ?_⟩
            obtain ⟨x, hx1, hx2⟩ := results_run (fn := fn) (tmps := a'.tmps) (fun t v hv => (hc.tmp t v hv).2) hc.rel h2
            exact ⟨x, hx1, x, σ', rfl, hx2, hc.rel, hE, hn⟩
          · cases h
        cases hrf : recFirst body with
        | none =>
          rw [hrf] at he
          dsimp only at he
          refine callsDIn_of_wp hf hb trivial ?_
          refine (exec_sound hm hxt ih1 ih3 (ro := none) n he (initT_rel hT hle hR hx) fun a' w' σ' hc hE hn => ?_).1
          dsimp only at hE hn
          have hpost := post a' w' σ' hc hE hn
          cases e with
          | exit id => cases h
          | normal =>
            obtain ⟨q1, y, q2, q3⟩ := hpost h
            exact ⟨q1, y, q2, q3⟩
          | ret =>
            obtain ⟨q1, y, q2, q3⟩ := hpost h
            exact ⟨q1, y, q2, q3⟩
        | some q =>
          obtain ⟨dst, l, rest⟩ := q
          rw [hrf] at he
          simp only [Option.bind_eq_some_iff] at he
          obtain ⟨T1, hT1, T2, hT2, he⟩ := he
          obtain ⟨id, ops, o, cc, rfl, hops, hop, hcal, hg, hdst⟩ := recFirst_spec hrf
          refine callsDIn_of_wpSIn hf hb trivial fun c₀ cs hu => ?_
          refine wpSIn_seq (wpSIn_region ?_)
          have hsz : ops.size = l.length + 1 := by have := congrArg List.length hops; simpa using this
          have ho : ops[0]? = some o := by rw [← Array.getElem?_toList, hops]; rfl
          have hcr := initT_rel (P := P) hT hle hR hx
          rw [hsz, List.range_eq_range', List.range'_succ]
          simp only [wpOpsSIn, ho]
          refine ⟨fun _ _ => trivial, ?_⟩
          have hw : Region.wanted o (yielded ops ((xs.toArray ++ Array.replicate (fn.ntmps - xs.toArray.size) undef))) = true := by simp [Region.wanted, hg]
          have hrec : ∀ (a : Act), (execOp a.eval o).run P w = .ok .recover w := fun a => by
            obtain ⟨callee, cargs, cats⟩ := cc
            dsimp only at hcal
            subst hcal
            simp only [execOp, hop, resolve, Sem.run_bind, Sem.run_pure, Result.andThen_ok, invoke]
            rfl
          rw [if_pos hw]
          simp only [hrec]
          have hnone : recoverD (c₀ :: cs) = none := by simp [recoverD, hu]
          simp only [hnone]
          rw [hdst]
          have hcr1 := hcr.put (dst := dst) (v := .nili) (z := .nilIface) (by simp [conc]) hT1
          refine apures_sound (T := T1) (σ := σ) hT2 (fun j => ?_) (by omega) hcr1.size hcr1.tmp fun a' ha' hs' hT' => ?_
          · rw [← Array.getElem?_toList, hops, Nat.add_comm]
            rfl
          · show Code.wpSIn _ _ _ _ _ _ _ _
            refine wpSIn_of_wpIn rfl ?_
            have hcr2 : CRel P ρ K fn.ntmps ⟨T2, S, []⟩ a' w σ := ⟨hR, hs', hT', by rw [ha']; cases dst <;> exact .nil⟩
            refine (exec_sound hm hxt ih1 ih3 (ro := none) n he hcr2 fun a'' w' σ' hc hE hn => ?_).1
            dsimp only at hE hn
            have hpost := post a'' w' σ' hc hE hn
            have hc0 : c₀ :: cs = { c₀ with mode := .returning } :: cs := by rw [← hu]
            cases e with
            | exit id => cases h
            | normal =>
              obtain ⟨q1, y, q2, q3⟩ := hpost h
              exact ⟨q1, .returning, hc0, y, q2, rfl, q3⟩
            | ret =>
              obtain ⟨q1, y, q2, q3⟩ := hpost h
              exact ⟨q1, .returning, hc0, y, q2, rfl, q3⟩
      · cases h
    · intro b args S v S' K w σ xs h hR hx
      simp only [callx, Option.bind_eq_some_iff] at h
      obtain ⟨ob, hob, h⟩ := h
      split at h
      · rename_i L pend
        simp only [Option.bind_eq_some_iff] at h
        obtain ⟨T, hT, ⟨e, c⟩, he, h⟩ := h
        cases e with
        | exit id => cases h
        | ret => cases h
        | normal =>
          simp only [Option.bind_eq_some_iff] at h
          obtain ⟨ob1, hob1, h⟩ := h
          split at h
          · rename_i L1 pend1
            simp only [Option.bind_eq_some_iff] at h
            obtain ⟨h1, hh1, ⟨e2, c2⟩, he2, ob2, hob2, h⟩ := h
            split at h
            · rename_i L2 st2 pend2
              simp only [Option.bind_eq_some_iff, Option.some.injEq, Prod.mk.injEq] at h
              obtain ⟨h2, hh2, rfl, rfl⟩ := h
              obtain ⟨en, hen, fn, tmps, d, hl, hsz, htm⟩ := hR.obj b _ hob
              obtain ⟨r1, r2, r3⟩ := setPs_rel hT hx hsz htm
              have hyield := run_yield (P := P) (args := xs.toArray) hl (by simpa using r1)
              have hfold : ((L.ps.toArray.zip xs.toArray).foldl (fun (tmps : Array Value) (p : Tmp × Value) => tmps.setIfInBounds p.1 p.2) tmps) = (L.ps.zip xs).foldl (fun (tmps : Array Value) (p : Tmp × Value) => tmps.setIfInBounds p.1 p.2) tmps := by
                simp [← Array.foldl_toList, Array.toList_zip]
              refine ⟨en, fn, (L.ps.zip xs).foldl (fun (tmps : Array Value) (p : Tmp × Value) => tmps.setIfInBounds p.1 p.2) tmps, L.assign, L.body, hen, ?_, ?_⟩
              · rw [hyield]
                congr 2
              · refine roundIn_of_wpIn trivial ?_
                have hcr : CRel P ρ K L.nt ⟨T, S, []⟩ { tmps := (L.ps.zip xs).foldl (fun (tmps : Array Value) (p : Tmp × Value) => tmps.setIfInBounds p.1 p.2) tmps, defers := [] } w σ := ⟨hR, r2, r3, .nil⟩
                refine (exec_sound hm hxt ih1 ih3 (ro := some en.blk) n he hcr fun a1 w1 σ1 hc1 hE1 hn1 => ?_).1
                dsimp only at hE1 hn1
                show ∃ w₂, (Instr.beginRound en.blk).run P w1 = .ok () w₂ ∧ _
                have hen1 : σ1 b = some en := hR.le hE1 _ _ hen
                obtain ⟨en', hen', fn1, tmps1, d1, hl1, hsz1, htm1⟩ := hc1.rel.obj b _ hob1
                rw [hen1] at hen'
                simp only [Option.some.injEq] at hen'
                subst hen'
                refine ⟨_, run_beginRound hl1 rfl, ?_⟩
                have hR2 := hc1.rel.putIter (S' := ⟨h1, c.S.next⟩) (o' := .loop L1 .busy pend1) (ob := .loop { state := .busy, pending := pend1, fn := fn1, tmps := tmps1, params := L1.ps.toArray, assign := L1.assign, body := L1.body, defers := d1 }) hob1 hen1 rfl ⟨h1, hh1, rfl⟩ (fun hh => ⟨fn1, tmps1, d1, hh, hsz1, htm1⟩)
                have hcr2 : CRel P ρ K L.nt ⟨c.T, ⟨h1, c.S.next⟩, c.D⟩ a1 _ σ1 := ⟨hR2, hc1.size, hc1.tmp, hc1.defs⟩
                refine (exec_sound hm hxt ih1 ih3 (ro := some en.blk) n he2 hcr2 fun a2 w2 σ2 hc2 hE2 hn2 => ?_).1
                dsimp only at hE2 hn2
                have hen2 : σ2 b = some en := hR2.le hE2 _ _ hen1
                obtain ⟨en', hen', fn2, tmps2, d2, hl2, hsz2, htm2⟩ := hc2.rel.obj b _ hob2
                rw [hen2] at hen'
                simp only [Option.some.injEq] at hen'
                subst hen'
                have hfin : ∀ (st' : ASt) (bb : Bool) (jump : Option Code), st'.to = (if jump.isNone then .ready else .done) → bb = jump.isNone → c2.S.h.set b (.loop L2 st' jump) = some h2 →
                    ∃ v w', (Instr.endRound en.blk jump).run P w2 = .ok v w' ∧ ∃ x σ', Ending.returned v = .returned x ∧ conc ρ σ' (.bool bb) = some x ∧ Rel ρ K ⟨h2, c2.S.next⟩ w' σ' ∧ Ext S.next σ σ' ∧ S.next ≤ c2.S.next := by
                  intro st' bb jump hst hbb hset
                  refine ⟨_, _, run_endRound jump hl2, _, σ2, rfl, by rw [hbb]; simp [conc], ?_, hE1.trans hE2 hn1, Nat.le_trans hn1 hn2⟩
                  refine hc2.rel.putIter (o' := .loop L2 st' jump) hob2 hen2 rfl ⟨h2, hset, rfl⟩ (fun hh => ⟨fn2, tmps2, d2, ?_, hsz2, htm2⟩)
                  rw [hst]
                  exact hh
                cases e2 with
                | normal => exact hfin .ready true none rfl rfl hh2
                | ret => exact hfin .done false (some .ret) rfl rfl hh2
                | exit id => exact hfin .done false (some (.exit id)) rfl rfl hh2
            · cases h
          · cases h
      · cases h

/-- The door. -/
theorem calls_of {M : Cal} (hm : P.follows .mixedOrders = true) (hxt : XtOk P xt) (hM : CalOk P xt ρ M) {n : Nat} {f : FuncId} {args : List AV} {v : AV} {S S' : St} {w : World} {σ : Sig} {xs : List Value} (h : callx P ρ.G xt M n (.fn false f) args S = some (v, S')) (hR : Rel ρ K S w σ) (hx : concL ρ σ args = some xs) :
    Calls P f xs.toArray w fun e w' => ∃ x σ', e = .returned x ∧ conc ρ σ' v = some x ∧ Rel ρ K S' w' σ' :=
  callsIn_wide.1 (CallsIn.mono ((callx_sound hm hxt hM n).1 f args S v S' K w σ xs h hR hx) fun _ _ ⟨x, σ', h1, h2, h3, _⟩ => ⟨x, σ', h1, h2, h3⟩)

end
end Go.Sx
