/- Code: sound. -/
import Derived.Test.YtbnjflmahipanaaGreatDoorSxDraw
import Derived.RangeFuncIn
import Derived.RangeFuncRecord
namespace Go.Sx
set_option linter.unusedSimpArgs false
set_option linter.unusedVariables false

section
variable {P : Program} {xt : FuncId → Option Xt} {ρ : Env} {K : Kp} {nt : Nat} {cal : Cal} {rcal : RCal}

theorem exec_sound (hm : P.follows .mixedOrders = true) (hxt : XtOk P xt) (hcal : CalOk P xt ρ cal) (hrcal : RCalOk P ρ rcal) {ro : Option Nat} : ∀ (n : Nat) {code : Code} {c : Cx} {e : Ex} {c' : Cx} {a : Act} {w : World} {σ : Sig} {Q : Exit → Act → World → Prop},
    exec P ρ.G xt cal rcal ro.isSome nt n code c = some (e, c') → CRel P ρ K nt c a w σ →
    (∀ a' w' σ', CRel P ρ K nt c' a' w' σ' → Ext c.S.next σ σ' → c.S.next ≤ c'.S.next → Q e.to a' w') →
    code.wpIn (Fw ro) 0 P Q a w ∧ ∀ body, code = .loop body → Code.roundsIn (Fw ro) 0 P body Q n a w
  | 0, code, c, e, c', a, w, σ, Q, h, _, _ => by cases h
  | n + 1, code, c, e, c', a, w, σ, Q, h, hc, hk => by
    cases code <;> simp only [exec] at h <;> (try (cases h; done)) <;> refine ⟨?_, fun body hb => ?_⟩ <;> (try (cases hb; done))
    case skip =>
      simp only [Option.some.injEq, Prod.mk.injEq] at h
      obtain ⟨rfl, rfl⟩ := h
      exact wpIn_skip (hk _ _ σ hc (Ext.refl _ _) (Nat.le_refl _))
    case label =>
      simp only [Option.some.injEq, Prod.mk.injEq] at h
      obtain ⟨rfl, rfl⟩ := h
      exact wpIn_label (hk _ _ σ hc (Ext.refl _ _) (Nat.le_refl _))
    case exit =>
      simp only [Option.some.injEq, Prod.mk.injEq] at h
      obtain ⟨rfl, rfl⟩ := h
      exact wpIn_exit (hk _ _ σ hc (Ext.refl _ _) (Nat.le_refl _))
    case ret =>
      simp only [Option.some.injEq, Prod.mk.injEq] at h
      obtain ⟨rfl, rfl⟩ := h
      exact wpIn_ret (hk _ _ σ hc (Ext.refl _ _) (Nat.le_refl _))
    case rangeFunc f ps assign body =>
      split at h
      · cases h
      · rename_i hro
        have hro : ro = none := by cases ro <;> simp_all
        subst hro
        simp only [Option.bind_eq_some_iff] at h
        obtain ⟨fv, hfv, h⟩ := h
        split at h
        · rename_i gf first cap
          simp only [Option.bind_eq_some_iff] at h
          obtain ⟨_, hx, ⟨bd, S1⟩, hS1, ⟨bl, S2⟩, hS2, ⟨v, S3⟩, hcl, ob, hob, h⟩ := h
          have hx : xt gf = some .body := by split at hx <;> first | assumption | cases hx
          split at h
          · rename_i L st pend
            have hz := aeval_rel hc _ _ hfv
            obtain ⟨fs, cs, hfs, hcs, hfe⟩ := inv_func hz
            obtain ⟨n1, n2, n3, n4⟩ := hc.rel.new (e := ⟨w.heap.size, 0, 0, 0⟩) (ob := .deferred (some [])) hS1 rfl (fun σ' _ => World.alloc_heap_new w _)
            subst n1
            have hle1 := hc.rel.le n4
            refine wpIn_rangeFunc fun fn _ => ?_
            obtain ⟨m1, m2, m3, m4⟩ := n3.new (e := ⟨w.heap.size + 1, 0, 0, 0⟩) (ob := .loop { state := .ready, pending := none, fn, tmps := a.tmps, params := ps, assign, body, defers := w.heap.size }) hS2 (by simp) (fun σ' hle => by
              refine ⟨fn, a.tmps, w.heap.size, ?_, hc.size, fun t v hv => ⟨(hc.tmp t v hv).1, conc_mono (hle1.trans hle) _ _ (hc.tmp t v hv).2⟩⟩
              have := World.alloc_heap_new (w.alloc (.deferred (some []))) (.loop { state := .ready, pending := none, fn, tmps := a.tmps, params := ps, assign, body, defers := w.heap.size })
              rw [World.size_alloc] at this
              simpa [ASt.to] using this)
            subst m1
            have hle2 := n3.le m4
            have hbl : ((σ.put c.S.next ⟨w.heap.size, 0, 0, 0⟩).put S1.next ⟨w.heap.size + 1, 0, 0, 0⟩) S1.next = some ⟨w.heap.size + 1, 0, 0, 0⟩ := by simp [Sig.put]
            have hbd : ((σ.put c.S.next ⟨w.heap.size, 0, 0, 0⟩).put S1.next ⟨w.heap.size + 1, 0, 0, 0⟩) c.S.next = some ⟨w.heap.size, 0, 0, 0⟩ := hle2 _ _ (by simp [Sig.put])
            refine ⟨w.heap.size + 1, [{ target := .collected w.heap.size, args := #[] }], _, { target := .fn (.func gf) cs.toArray, args := fs.toArray ++ #[.func (.yield (w.heap.size + 1)) #[] #[]] }, ((w.alloc (.deferred (some []))).alloc (.loop { state := .ready, pending := none, fn, tmps := a.tmps, params := ps, assign, body, defers := w.heap.size })), gf, fs.toArray ++ #[.func (.yield (w.heap.size + 1)) #[] #[]] ++ cs.toArray, ((w.alloc (.deferred (some []))).alloc (.loop { state := .ready, pending := none, fn, tmps := a.tmps, params := ps, assign, body, defers := w.heap.size })), run_enterLoop_outer fn a.tmps ps assign body, ?_, fun _ _ => trivial, ?_, (fun h => by cases h), ?_⟩
            · simp only [resolve, hfe, Deferred.ofValue, Sem.run_bind, Sem.run_pure, Result.andThen_ok, List.map_toArray, List.map_cons, List.map_nil]
              rfl
            · exact hxt gf .body hx _ _
            · have hargs : concL ρ ((σ.put c.S.next ⟨w.heap.size, 0, 0, 0⟩).put S1.next ⟨w.heap.size + 1, 0, 0, 0⟩) (first ++ [AV.yld S1.next] ++ cap) = some (fs ++ [.func (.yield (w.heap.size + 1)) #[] #[]] ++ cs) :=
                concL_append (concL_append (concL_mono (hle1.trans hle2) _ _ hfs) (by simp [concL, conc, hbl])) (concL_mono (hle1.trans hle2) _ _ hcs)
              have hcall := hcal gf _ S2 v S3 K _ _ _ hcl m3 hargs
              have hxs : fs.toArray ++ #[Value.func (.yield (w.heap.size + 1)) #[] #[]] ++ cs.toArray = (fs ++ [Value.func (.yield (w.heap.size + 1)) #[] #[]] ++ cs).toArray := by simp
              rw [hxs]
              refine CallsIn.mono hcall ?_
              rintro en w3 ⟨x, σ3, rfl, _, hR3, hE3, hn3⟩
              have hbl3 : σ3 S1.next = some ⟨w.heap.size + 1, 0, 0, 0⟩ := by rw [hE3 _ (by omega)]; exact hbl
              have hbd3 : σ3 c.S.next = some ⟨w.heap.size, 0, 0, 0⟩ := by rw [hE3 _ (by omega)]; exact hbd
              obtain ⟨e', he', fn', tmps', d', hl1, _, _⟩ := hR3.obj _ _ hob
              rw [hbl3] at he'
              simp only [Option.some.injEq] at he'
              subst he'
              have hR4 := hR3.dropPut (ob := .loop { state := .exhausted, pending := pend, fn := fn', tmps := tmps', params := L.ps.toArray, assign := L.assign, body := L.body, defers := d' }) hob hbl3 rfl
              have hE : Ext c.S.next σ σ3 := (n4.trans m4 (by omega)).trans hE3 (by omega)
              have hle := hc.rel.le hE
              have hfin : st ≠ .busy → afterLoop pend ⟨c.T, ⟨S3.h.del S1.next, S3.next⟩, .mark c.S.next :: c.D⟩ = some (e, c') → ∃ jump w4, (Instr.endLoop (w.heap.size + 1)).run P w3 = .ok jump w4 ∧
                  (match jump with
                   | none => Q .normal { a with defers := [{ target := .collected w.heap.size, args := #[] }] ++ a.defers } w4
                   | some cc => cc.wpIn (Fw none) 0 P Q { a with defers := [{ target := .collected w.heap.size, args := #[] }] ++ a.defers } w4) := by
                intro hst h
                refine ⟨pend, _, run_endLoop hl1 (by cases st <;> first | (exact absurd rfl hst) | (simp [ASt.to])), ?_⟩
                have hcr : CRel P ρ K nt ⟨c.T, ⟨S3.h.del S1.next, S3.next⟩, .mark c.S.next :: c.D⟩ { a with defers := [{ target := .collected w.heap.size, args := #[] }] ++ a.defers } (w3.putObj (w.heap.size + 1) (.loop { state := .exhausted, pending := pend, fn := fn', tmps := tmps', params := L.ps.toArray, assign := L.assign, body := L.body, defers := d' })) σ3 :=
                  ⟨hR4, hc.size, fun t v hv => ⟨(hc.tmp t v hv).1, conc_mono hle _ _ (hc.tmp t v hv).2⟩, .cons ⟨_, hbd3, rfl⟩ (hc.defs.mono hle)⟩
                unfold afterLoop at h
                split at h
                · simp only [Option.some.injEq, Prod.mk.injEq] at h
                  obtain ⟨rfl, rfl⟩ := h
                  exact hk _ _ σ3 hcr hE (by dsimp only; omega)
                · simp only [Option.some.injEq, Prod.mk.injEq] at h
                  obtain ⟨rfl, rfl⟩ := h
                  exact wpIn_ret (hk _ _ σ3 hcr hE (by dsimp only; omega))
                · simp only [Option.some.injEq, Prod.mk.injEq] at h
                  obtain ⟨rfl, rfl⟩ := h
                  exact wpIn_exit (hk _ _ σ3 hcr hE (by dsimp only; omega))
                · cases h
              split at h
              · cases h
              · rename_i hnb
                exact hfin (fun hb => hnb hb) h
          · cases h
        · cases h
    case region id ops draw =>
      simp only [Option.bind_eq_some_iff, Option.some.injEq, Prod.mk.injEq] at h
      obtain ⟨c1, h1, rfl, rfl⟩ := h
      cases draw with
      | false => exact wpIn_region_list (aops_sound hxt hcal hrcal (by simpa using h1) hc hk)
      | true => exact wpIn_region_drawn hm hxt hcal (by simpa using h1) hc hk
    case seq x y =>
      simp only [Option.bind_eq_some_iff] at h
      obtain ⟨⟨e1, c1⟩, h1, h2⟩ := h
      refine wpIn_seq (exec_sound hm hxt hcal hrcal n h1 hc fun a' w' σ' hc' hx hn => ?_).1
      cases e1 with
      | normal => exact (exec_sound hm hxt hcal hrcal n h2 hc' fun a'' w'' σ'' hc'' hx' hn' => hk _ _ _ hc'' (hx.trans hx' hn) (Nat.le_trans hn hn')).1
      | exit id => simp only [Option.some.injEq, Prod.mk.injEq] at h2; obtain ⟨rfl, rfl⟩ := h2; exact hk _ _ _ hc' hx hn
      | ret => simp only [Option.some.injEq, Prod.mk.injEq] at h2; obtain ⟨rfl, rfl⟩ := h2; exact hk _ _ _ hc' hx hn
    case cond x y z =>
      simp only [Option.bind_eq_some_iff] at h
      obtain ⟨v, hv, h⟩ := h
      have hz := aeval_rel hc _ _ hv
      split at h
      · simp only [conc, Option.some.injEq] at hz
        exact wpIn_cond_true hz.symm (exec_sound hm hxt hcal hrcal n h hc hk).1
      · simp only [conc, Option.some.injEq] at hz
        exact wpIn_cond_false hz.symm (exec_sound hm hxt hcal hrcal n h hc hk).1
      · cases h
    case block id body =>
      simp only [Option.bind_eq_some_iff] at h
      obtain ⟨⟨e1, c1⟩, h1, h2⟩ := h
      refine wpIn_block (exec_sound hm hxt hcal hrcal n h1 hc fun a' w' σ' hc' hx hn => ?_).1
      cases e1 with
      | normal => simp only [Option.some.injEq, Prod.mk.injEq] at h2; obtain ⟨rfl, rfl⟩ := h2; exact hk _ _ _ hc' hx hn
      | ret => simp only [Option.some.injEq, Prod.mk.injEq] at h2; obtain ⟨rfl, rfl⟩ := h2; exact hk _ _ _ hc' hx hn
      | exit id' =>
        simp only at h2
        show if id' = id then _ else _
        by_cases hid : id' = id
        · subst hid
          simp only [Nat.beq_refl, if_true, Option.some.injEq, Prod.mk.injEq] at h2
          obtain ⟨rfl, rfl⟩ := h2
          simp only [if_true]
          exact hk _ _ _ hc' hx hn
        · have hb : Nat.beq id' id = false := by
            cases hb : Nat.beq id' id with
            | false => rfl
            | true => exact absurd (Nat.eq_of_beq_eq_true hb) hid
          simp only [hb, Bool.false_eq_true, if_false, Option.some.injEq, Prod.mk.injEq] at h2
          obtain ⟨rfl, rfl⟩ := h2
          simp only [hid, if_false]
          exact hk _ _ _ hc' hx hn
    case loop.refine_1 b =>
      refine wpIn_loop_rounds (n + 1) ?_
      simp only [Option.bind_eq_some_iff] at h
      obtain ⟨⟨e1, c1⟩, h1, h2⟩ := h
      rw [roundsIn_succ]
      refine (exec_sound hm hxt hcal hrcal n h1 hc fun a' w' σ' hc' hx hn => ?_).1
      cases e1 with
      | normal => exact (exec_sound hm hxt hcal hrcal n h2 hc' fun a'' w'' σ'' hc'' hx' hn' => hk _ _ _ hc'' (hx.trans hx' hn) (Nat.le_trans hn hn')).2 _ rfl
      | exit id => simp only [Option.some.injEq, Prod.mk.injEq] at h2; obtain ⟨rfl, rfl⟩ := h2; exact hk _ _ _ hc' hx hn
      | ret => simp only [Option.some.injEq, Prod.mk.injEq] at h2; obtain ⟨rfl, rfl⟩ := h2; exact hk _ _ _ hc' hx hn
    case loop.refine_2 b =>
      cases hb
      simp only [Option.bind_eq_some_iff] at h
      obtain ⟨⟨e1, c1⟩, h1, h2⟩ := h
      rw [roundsIn_succ]
      refine (exec_sound hm hxt hcal hrcal n h1 hc fun a' w' σ' hc' hx hn => ?_).1
      cases e1 with
      | normal => exact (exec_sound hm hxt hcal hrcal n h2 hc' fun a'' w'' σ'' hc'' hx' hn' => hk _ _ _ hc'' (hx.trans hx' hn) (Nat.le_trans hn hn')).2 _ rfl
      | exit id => simp only [Option.some.injEq, Prod.mk.injEq] at h2; obtain ⟨rfl, rfl⟩ := h2; exact hk _ _ _ hc' hx hn
      | ret => simp only [Option.some.injEq, Prod.mk.injEq] at h2; obtain ⟨rfl, rfl⟩ := h2; exact hk _ _ _ hc' hx hn

end
end Go.Sx
