/- append, the whole. -/
import Derived.Test.YtbnjflmahipanaaGreatDoorSxGrow
namespace Go.Sx
set_option linter.unusedSimpArgs false
set_option linter.unusedVariables false

section
variable {P : Program} {ρ : Env} {σ : Sig} {w : World} {K : Kp} {S S' : St}

/-- An append in place. -/
theorem run_append_in {argTypes : Array TypeId} {type st xt e : TypeId} {xu : TypeDesc} {sz n sLen sCap : Nat} {a : Addr} {cx : Value} {new : List Value} {w' : World}
    (h0 : argTypes[0]? = some st) (h1 : P.underlying st = some (.slice e)) (h2 : argTypes[1]? = some xt) (h3 : P.underlying xt = some xu) (h4 : ∀ k, xu ≠ .int k) (hsz : tsize P e = some sz)
    (hn : (Builtin.lenOf cx).run P w = .ok n w) (hneed : sLen + n ≤ sCap) (hnew : (Builtin.firstCells sz n cx).run P w = .ok new.toArray w)
    (hst : (storeCells (a.add (sLen * sz)) new).run P w = .ok () w') :
    (Builtin.append_ argTypes type #[.slice (some a) sLen sCap, cx]).run P w = .ok (.slice (some a) (sLen + n) sCap) w' := by
  simp only [Builtin.append_, h0, h2]
  simp [run_underlying h1, run_underlying h3, run_sizeOf hsz, hn, hneed]
  simp [hnew, hst]

theorem run_append_nil {argTypes : Array TypeId} {type st xt e : TypeId} {xu : TypeDesc} {sz : Nat} {cx : Value} {new : List Value}
    (h0 : argTypes[0]? = some st) (h1 : P.underlying st = some (.slice e)) (h2 : argTypes[1]? = some xt) (h3 : P.underlying xt = some xu) (h4 : ∀ k, xu ≠ .int k) (hsz : tsize P e = some sz)
    (hn : (Builtin.lenOf cx).run P w = .ok 0 w) (hnew : (Builtin.firstCells sz 0 cx).run P w = .ok new.toArray w) :
    (Builtin.append_ argTypes type #[.slice none 0 0, cx]).run P w = .ok (.slice none 0 0) w := by
  simp only [Builtin.append_, h0, h2]
  simp [run_underlying h1, run_underlying h3, run_sizeOf hsz, hn]
  simp [hnew]

/-- A row that grew where it stood: the relation behind it. -/
theorem Rel.grownIn {S1 S2 S3 : St} {w' : World} {b id skip len n sz : Nat} {cs new : List AV} {el el' : Option TypeId} {e : Ent} {ys : List Value} {old : List AV} {k : Option Nat} {h3 : Tr AObj}
    (h : Rel ρ K S1 w σ) (he : σ b = some e) (hc : CellsRel ρ σ w e cs true el) (hb : S1.h.get b = some (.cells cs true k el))
    (hal : ∀ b' o' e', b' ≠ b → S1.h.get b' = some o' → σ b' = some e' → e'.blk ≠ e.blk) (hK : ∀ r, (K r).isSome → e.blk ≠ r)
    (hesz : e.esz = sz) (hcap : skip + len + n ≤ e.cap) (hold : getMany cs (skip * sz) (len * sz) = some old)
    (hnew : concL ρ σ new = some ys) (hnl : ys.length = n * sz) (hel : el' = none ∨ el' = el)
    (hw : Wrote w w' e.blk (e.off + (skip + len) * sz) ys)
    (hS2 : S1.new (.cells (old ++ new) true (some b) el') = some (id, S2)) (hS3 : S2.h.set b (.cells (cs.take ((skip + len) * sz)) true (some id) el) = some h3) (hS3' : S3 = ⟨h3, S2.next⟩) :
    S2.next = S1.next + 1 ∧ Rel ρ K S3 w' (σ.put id ⟨e.blk, e.off + skip * sz, e.cap - skip, sz⟩) ∧ Ext S1.next σ (σ.put id ⟨e.blk, e.off + skip * sz, e.cap - skip, sz⟩) := by
  subst hS3'
  unfold St.new at hS2
  simp only [Option.bind_eq_some_iff, Option.some.injEq, Prod.mk.injEq] at hS2
  obtain ⟨t, ht, rfl, rfl⟩ := hS2
  have g1 := Tr.get_set _ _ _ t ht
  have g2 := Tr.get_set _ _ _ h3 hS3
  simp only at g2
  have hbn : b ≠ S1.next := fun h' => by have := (h.low b e he).1; omega
  have hx : Ext S1.next σ (σ.put S1.next ⟨e.blk, e.off + skip * sz, e.cap - skip, sz⟩) := Sig.put_ext (Nat.le_refl _)
  have hle := h.le hx
  obtain ⟨zs, hz1, hz2, hz3⟩ := hc.many hold
  have hmul : (skip + len) * sz = skip * sz + len * sz := Nat.add_mul _ _ _
  have hnlen := concL_length hnew
  have hobj1 : CellsRel ρ (σ.put S1.next ⟨e.blk, e.off + skip * sz, e.cap - skip, sz⟩) w' e (cs.take ((skip + len) * sz)) true el := by
    refine ⟨fun i v hi => ?_, fun hg i hi => ?_, fun u hu => ?_⟩
    · rw [List.getElem?_take] at hi
      split at hi
      · rename_i hlt
        obtain ⟨x, q1, q2, q3⟩ := hc.cell i v hi
        refine ⟨x, ?_, conc_mono hle _ _ q2, by rw [hw.frozen]; exact q3⟩
        rw [hw.cell, if_neg (by omega)]; exact q1
      · cases hi
    · obtain ⟨⟨x, q1⟩, q2⟩ := hc.room rfl i hi
      rw [hw.frozen, hw.cell]
      refine ⟨?_, q2⟩
      split
      · rename_i hin
        have : (ys[e.off + i - (e.off + (skip + len) * sz)]?).isSome := by simp; omega
        exact Option.isSome_iff_exists.1 this
      · exact ⟨x, q1⟩
    · rw [hw.shape]
      obtain ⟨c, q1, _, q3⟩ := hc.elem u hu
      exact ⟨c, q1, (fun h => by cases h), by rw [hw.frozen]; exact q3⟩
  have hobj2 : CellsRel ρ (σ.put S1.next ⟨e.blk, e.off + skip * sz, e.cap - skip, sz⟩) w' ⟨e.blk, e.off + skip * sz, e.cap - skip, sz⟩ (old ++ new) true el' := by
    have hol : old.length = len * sz := (getMany_spec hold).1
    refine ⟨fun i v hi => ?_, fun hg i hi => ?_, fun u hu => ?_⟩
    · by_cases hlt : i < old.length
      · rw [List.getElem?_append_left hlt, (getMany_spec hold).2 i (by omega)] at hi
        obtain ⟨x, q1, q2, q3⟩ := hc.cell _ v hi
        have ea : e.off + skip * sz + i = e.off + (skip * sz + i) := by omega
        refine ⟨x, ?_, conc_mono hle _ _ q2, ?_⟩
        · simp only [ea, hw.cell]
          rw [if_neg (by omega)]; exact q1
        · simp only [ea, hw.frozen]; exact q3
      · rw [List.getElem?_append_right (by omega)] at hi
        have q1 := concL_get hnew (i - old.length)
        rw [hi] at q1
        simp at q1
        have hlt2 := (List.getElem?_eq_some_iff.1 hi).1
        have hin : i < (len + n) * sz := by rw [Nat.add_mul]; omega
        have hroom : skip * sz + i < e.cap * e.esz := by
          rw [hesz]
          have : (skip + len + n) * sz ≤ e.cap * sz := Nat.mul_le_mul_right _ hcap
          have e2 : (skip + len + n) * sz = skip * sz + (len + n) * sz := by rw [← Nat.add_mul]; congr 1; omega
          omega
        have q2 := (hc.room rfl (skip * sz + i) hroom).2
        have ea : e.off + skip * sz + i = e.off + (skip * sz + i) := by omega
        refine ⟨ys[i - old.length]'(by omega), ?_, ?_, ?_⟩
        · simp only [ea, hw.cell]
          rw [if_pos (by omega)]
          have : e.off + (skip * sz + i) - (e.off + (skip + len) * sz) = i - old.length := by omega
          rw [this, List.getElem?_eq_getElem]
        · refine conc_mono hle _ _ ?_
          rw [q1, List.getElem?_eq_getElem (by omega)]
        · simp only [ea, hw.frozen]; exact q2
    · simp only at hi ⊢
      have hroom : skip * sz + i < e.cap * e.esz := by
        rw [hesz]
        have e2 : e.cap * sz = skip * sz + (e.cap - skip) * sz := by rw [← Nat.add_mul]; congr 1; omega
        omega
      obtain ⟨⟨x, q1⟩, q2⟩ := hc.room rfl (skip * sz + i) hroom
      have ea : e.off + skip * sz + i = e.off + (skip * sz + i) := by omega
      simp only [ea, hw.frozen, hw.cell]
      refine ⟨?_, q2⟩
      split
      · have : (ys[e.off + (skip * sz + i) - (e.off + (skip + len) * sz)]?).isSome := by simp; omega
        exact Option.isSome_iff_exists.1 this
      · exact ⟨x, q1⟩
    · rcases hel with rfl | rfl
      · cases hu
      · simp only [hw.shape]
        obtain ⟨c, q1, _, q3⟩ := hc.elem u hu
        exact ⟨c, q1, (fun h => by cases h), by rw [hw.frozen]; exact q3⟩
  refine ⟨rfl, ⟨?_, ?_, ?_, ?_, ?_, h.rest.calm hw.calm, h.glob⟩, hx⟩
  · intro b' e' hb'
    simp only [Sig.put] at hb'
    rw [hw.size]
    split at hb'
    · simp at hb'; subst hb'; subst b'
      exact ⟨Nat.lt_succ_self _, (h.low b e he).2⟩
    · have := h.low b' e' hb'; exact ⟨Nat.lt_succ_of_lt this.1, this.2⟩
  · intro b' o' hb'
    simp only [g2, g1] at hb'
    split at hb'
    · simp at hb'; subst hb'; subst b'
      exact ⟨e, by simp [Sig.put, hbn, he], hobj1⟩
    · split at hb'
      · simp at hb'; subst hb'; subst b'
        exact ⟨_, by simp [Sig.put], hobj2⟩
      · rename_i n1 n2
        obtain ⟨e', q1, q2⟩ := h.obj b' o' hb'
        exact ⟨e', hle _ _ q1, (q2.mono hle).world (hw.other _ (hal b' o' e' n1 hb' q1))⟩
  · intro b1 b2 o1 o2 e1 e2 q1 q2 s1 s2 hq
    simp only [g2, g1] at q1 q2
    simp only [Sig.put] at s1 s2
    by_cases c1 : b1 = b
    · subst c1
      rw [if_pos rfl] at q1
      rw [if_neg hbn, he] at s1
      simp at q1 s1
      subst q1; subst s1
      by_cases c2 : b2 = b1
      · exact .inl c2.symm
      · rw [if_neg c2] at q2
        by_cases c3 : b2 = S1.next
        · subst c3
          rw [if_pos rfl] at q2
          simp at q2; subst q2
          exact .inr ⟨rfl, rfl⟩
        · rw [if_neg c3] at q2 s2
          exact absurd hq.symm (hal b2 o2 e2 c2 q2 s2)
    · rw [if_neg c1] at q1
      by_cases c3 : b1 = S1.next
      · subst c3
        rw [if_pos rfl] at q1 s1
        simp at q1 s1
        subst q1; subst s1
        by_cases c2 : b2 = b
        · subst c2
          rw [if_pos rfl] at q2
          simp at q2; subst q2
          exact .inr ⟨rfl, rfl⟩
        · rw [if_neg c2] at q2
          by_cases c4 : b2 = S1.next
          · exact .inl c4.symm
          · rw [if_neg c4] at q2 s2
            exact absurd hq.symm (hal b2 o2 e2 c2 q2 s2)
      · rw [if_neg c3] at q1 s1
        by_cases c2 : b2 = b
        · subst c2
          rw [if_neg hbn, he] at s2
          simp at s2; subst s2
          exact absurd hq (hal b1 o1 e1 c1 q1 s1)
        · rw [if_neg c2] at q2
          by_cases c4 : b2 = S1.next
          · subst c4
            rw [if_pos rfl] at s2
            simp at s2; subst s2
            exact absurd hq (hal b1 o1 e1 c1 q1 s1)
          · rw [if_neg c4] at q2 s2
            exact h.sep b1 b2 o1 o2 e1 e2 q1 q2 s1 s2 hq
  · intro r ob hr
    rw [hw.other r (Ne.symm (hK r (by simp [hr])))]; exact h.keep r ob hr
  · intro b' o' e' r q1 s1 hr
    simp only [g2, g1] at q1
    simp only [Sig.put] at s1
    by_cases c3 : b' = S1.next
    · subst c3
      rw [if_pos rfl] at s1
      simp at s1; subst s1
      exact hK r hr
    · rw [if_neg c3] at s1
      by_cases c1 : b' = b
      · subst c1
        rw [he] at s1; simp at s1; subst s1
        exact hK r hr
      · rw [if_neg c1, if_neg c3] at q1
        exact h.apart b' o' e' r q1 s1 hr

/-- Cells that are forgotten, and a neighbour that is named. -/
theorem Rel.trim {b n : Nat} {cs : List AV} {k k' : Option Nat} {el : Option TypeId} {e : Ent} {t : Tr AObj} (h : Rel ρ K S w σ) (hb : S.h.get b = some (.cells cs true k el)) (he : σ b = some e)
    (hal : ∀ b' o' e', b' ≠ b → S.h.get b' = some o' → σ b' = some e' → e'.blk ≠ e.blk) (hset : S.h.set b (.cells (cs.take n) true k' el) = some t) : Rel ρ K ⟨t, S.next⟩ w σ := by
  have hg := Tr.get_set _ _ _ t hset
  obtain ⟨e0, he0, hc⟩ := h.obj b _ hb
  rw [he] at he0
  simp only [Option.some.injEq] at he0
  subst he0
  have hc' : CellsRel ρ σ w e (cs.take n) true el := by
    refine ⟨fun i v hi => ?_, hc.room, fun u hu => ?_⟩
    · rw [List.getElem?_take] at hi
      split at hi
      · exact hc.cell i v hi
      · cases hi
    · obtain ⟨c, q1, _, q3⟩ := hc.elem u hu
      exact ⟨c, q1, (fun h => by cases h), q3⟩
  refine ⟨h.low, fun b' o' hb' => ?_, fun b1 b2 o1 o2 e1 e2 q1 q2 s1 s2 hq => ?_, h.keep, fun b' o' e' r q1 s1 hr => ?_, h.rest, h.glob⟩
  · simp only [hg] at hb'
    split at hb'
    · simp at hb'; subst hb'; subst b'; exact ⟨e, he, hc'⟩
    · exact h.obj b' o' hb'
  · simp only [hg] at q1 q2
    by_cases c1 : b1 = b
    · by_cases c2 : b2 = b
      · left; omega
      · rw [if_neg c2] at q2
        subst c1
        rw [he] at s1; simp at s1; subst s1
        exact absurd hq.symm (hal b2 o2 e2 c2 q2 s2)
    · rw [if_neg c1] at q1
      by_cases c2 : b2 = b
      · subst c2
        rw [he] at s2; simp at s2; subst s2
        exact absurd hq (hal b1 o1 e1 c1 q1 s1)
      · rw [if_neg c2] at q2
        exact h.sep b1 b2 o1 o2 e1 e2 q1 q2 s1 s2 hq
  · simp only [hg] at q1
    split at q1
    · subst b'; exact h.apart b _ e' r hb s1 hr
    · exact h.apart b' o' e' r q1 s1 hr

set_option maxHeartbeats 1000000 in
theorem run_aappend {argTypes : Array TypeId} {type : TypeId} {s x v : AV} {cs cx : Value} (hR : Rel ρ K S w σ) (h : aappend P S argTypes s x = some (v, S')) (hs : conc ρ σ s = some cs) (hx : conc ρ σ x = some cx) :
    ∃ z w' σ', (Builtin.append_ argTypes type #[cs, cx]).run P w = .ok z w' ∧ conc ρ σ' v = some z ∧ Rel ρ K S' w' σ' ∧ Ext S.next σ σ' ∧ S.next ≤ S'.next := by
  unfold aappend at h
  simp only [Option.bind_eq_some_iff] at h
  obtain ⟨st, h0, u, h1, h⟩ := h
  split at h
  · rename_i e
    simp only [Option.bind_eq_some_iff] at h
    obtain ⟨sz, hsz, xtt, h2, xu, h3, h⟩ := h
    split at h
    · cases h
    · rename_i hni
      simp only [Option.bind_eq_some_iff] at h
      obtain ⟨n, hn, new, hnew, inf, hinf, z, hz, h⟩ := h
      split at h
      · cases h
      · rename_i hc
        simp only [Bool.not_eq_true, Bool.not_eq_false', Bool.and_eq_true, Nat.ble_eq] at hc
        obtain ⟨⟨⟨⟨⟨c1, c2⟩, c3⟩, c4⟩, c5⟩, c6⟩ := hc
        have c5 := Nat.eq_of_beq_eq_true c5
        have h4 : ∀ k, xu ≠ .int k := fun k hk => hni k hk
        have hlen := run_lenOf (P := P) hn hx w
        obtain ⟨ys, hy1, hy2, hy3⟩ := run_srcCells (P := P) hR hnew hx
        obtain ⟨ys', hy1', hy2', _⟩ := run_srcCells (P := P) hR.drew hnew hx
        rw [hy2] at hy2'
        simp only [Option.some.injEq] at hy2'
        subst hy2'
        split at h
        · -- nil
          obtain rfl := inv_nils hs
          split at h
          · rename_i hn0
            have hn0 := Nat.eq_of_beq_eq_true hn0
            subst hn0
            simp only [Option.some.injEq, Prod.mk.injEq] at h
            obtain ⟨rfl, rfl⟩ := h
            exact ⟨_, w, σ, run_append_nil h0 h1 h2 h3 h4 hsz hlen hy1, hs, hR, Ext.refl _ _, Nat.le_refl _⟩
          · rename_i hn0
            have hn0 : n ≠ 0 := by simpa using hn0
            simp only [Option.bind_eq_some_iff, Option.some.injEq, Prod.mk.injEq] at h
            obtain ⟨⟨id, S1⟩, hS, rfl, rfl⟩ := h
            obtain ⟨rest, newCap, q1, q2, q3⟩ := run_append_new (type := type) (sLen := 0) (sCap := 0) (base := none) (old := []) ρ σ h0 h1 h2 h3 h4 hsz hinf c1 c2 hz c5 hlen (by omega) (by omega) rfl hy1'
            simp only [Nat.zero_add, List.nil_append] at q1 q2 q3
            obtain ⟨g1, g2, g3, g4, g5⟩ := hR.drew.grown hS hy2 hy3 q2 q1 (.inr rfl)
            exact ⟨_, _, _, q3, g5 n q1, g3, g4, by simp only; omega⟩
        · -- a slice
          rename_i b off len cap
          split at h
          · cases h
          · rename_i hl
            have hl : len ≤ 65536 := by simpa using hl
            obtain ⟨en, he, rfl⟩ := inv_slice hs
            split at h
            · rename_i hin
              have hin : len + n ≤ cap := by simpa using hin
              simp only [Option.bind_eq_some_iff, Option.some.injEq, Prod.mk.injEq] at h
              obtain ⟨S1, hS, rfl, rfl⟩ := h
              obtain ⟨w', q1, q2, q3⟩ := hR.write (P := P) hS he hy2
              refine ⟨_, w', σ, run_append_in h0 h1 h2 h3 h4 hsz hlen hin hy1 (by rw [add_none]; rw [Nat.add_assoc]; exact q1), by simp [conc, he], q2, Ext.refl _ _, by omega⟩
            · rename_i hin
              have hin : ¬ len + n ≤ cap := by simpa using hin
              simp only [Option.bind_eq_some_iff, Option.some.injEq, Prod.mk.injEq] at h
              obtain ⟨old, hold, ⟨id, S1⟩, hS, rfl, rfl⟩ := h
              obtain ⟨os, ho1, ho2, ho3⟩ := run_srcCells (P := P) hR.drew hold hs
              obtain ⟨rest, newCap, q1, q2, q3⟩ := run_append_new (type := type) ρ σ h0 h1 h2 h3 h4 hsz hinf c1 c2 hz c5 hlen (by omega) hin ho1 hy1'
              obtain ⟨g1, g2, g3, g4, g5⟩ := hR.drew.grown hS (concL_append ho2 hy2) (by simp [ho3, hy3, Nat.add_mul]) q2 q1 (.inr rfl)
              exact ⟨_, _, _, q3, g5 _ q1, g3, g4, by simp only; omega⟩
        · -- a slice that grew
          rename_i b skip len esz
          split at h
          · cases h
          · rename_i hl
            simp only [Bool.not_eq_true, Bool.not_eq_false', Bool.and_eq_true, Nat.ble_eq] at hl
            obtain ⟨hes, hl⟩ := hl
            have hes := Nat.eq_of_beq_eq_true hes
            subst hes
            obtain ⟨en, he, hcap, hesz, rfl⟩ := inv_gslice hs
            subst hesz
            split at h
            · rename_i hn0
              have hn0 := Nat.eq_of_beq_eq_true hn0
              subst hn0
              simp only [Option.some.injEq, Prod.mk.injEq] at h
              obtain ⟨rfl, rfl⟩ := h
              have hys : ys = [] := List.eq_nil_of_length_eq_zero (by simpa using hy3)
              subst hys
              exact ⟨_, w, σ, run_append_in h0 h1 h2 h3 h4 hsz hlen (by omega) hy1 (by simp [storeCells]), hs, hR, Ext.refl _ _, Nat.le_refl _⟩
            · rename_i hn0
              have hn0 : n ≠ 0 := by simpa using hn0
              simp only [Option.bind_eq_some_iff] at h
              obtain ⟨⟨ccs, g, el, S1⟩, ha, old, hold, h⟩ := h
              simp only at hold h
              split at h
              · cases h
              · rename_i hg
                have hg : g = true := by simpa using hg
                subst hg
                simp only [Option.bind_eq_some_iff, Option.some.injEq, Prod.mk.injEq] at h
                obtain ⟨⟨id, S2⟩, hS2, t3, hS3, rfl, rfl⟩ := h
                simp only at hS3
                obtain ⟨r1, r2, ⟨k, r3⟩, e', r4, r5, r6, r7, r8⟩ := hR.alone ha
                rw [he] at r4
                simp only [Option.some.injEq] at r4
                subst r4
                by_cases hin : len + n ≤ en.cap - skip
                · -- in place
                  have hmul : (skip + len) * en.esz = skip * en.esz + len * en.esz := Nat.add_mul _ _ _
                  have hlast : (skip + len) * en.esz + n * en.esz ≤ en.cap * en.esz := by rw [← Nat.add_mul]; exact Nat.mul_le_mul_right _ (by omega)
                  obtain ⟨w', q1, W⟩ := run_storeCells (P := P) en.blk (en.off + skip * en.esz + len * en.esz) ys 0 w (concL_one c6 hy2) (fun j hj => by
                    obtain ⟨⟨y, z1⟩, z2⟩ := r5.room rfl ((skip + len) * en.esz + j) (by omega)
                    have e1 : en.off + skip * en.esz + len * en.esz + (0 + j) = en.off + ((skip + len) * en.esz + j) := by omega
                    rw [e1, z1, z2]; simp)
                  have e2 : en.off + skip * en.esz + len * en.esz + 0 = en.off + (skip + len) * en.esz := by omega
                  rw [e2] at W
                  obtain ⟨g1, g2, g3⟩ := r1.grownIn he r5 r3 r6 r8 rfl (by omega) hold hy2 hy3 (by
                    cases el with
                    | none => exact .inl rfl
                    | some t => simp only; split; rename_i ht; have ht := Nat.eq_of_beq_eq_true ht; subst ht; exact .inr rfl; exact .inl rfl) W hS2 hS3 rfl
                  refine ⟨_, w', _, run_append_in h0 h1 h2 h3 h4 hsz hlen hin hy1 (by rw [add_none]; exact q1), ?_, g2, ?_, ?_⟩
                  · have hid : id = S1.next := by
                      unfold St.new at hS2
                      simp only [Option.bind_eq_some_iff, Option.some.injEq, Prod.mk.injEq] at hS2
                      obtain ⟨_, _, h5, _⟩ := hS2
                      exact h5.symm
                    simp only [conc, Sig.put, if_true, Option.bind_some]
                    rw [if_pos ⟨by omega, trivial⟩]
                    simp
                  · rw [← r2]; exact g3
                  · simp only; omega
                · -- made anew
                  obtain ⟨os, ho1, ho2, ho3⟩ := r5.many hold
                  have hfirst : ∀ w', w'.heap = w.heap → (Builtin.firstCells en.esz len (.slice (some ⟨en.blk, en.off + skip * en.esz, none⟩) len (en.cap - skip))).run P w' = .ok os.toArray w' := fun w' hw' => by
                    simp only [Builtin.firstCells]
                    exact run_loadCells en.blk (en.off + skip * en.esz) (len * en.esz) os ho2 (fun j hj => by rw [← ho3 j hj]; simp [World.cell?, hw'])
                  obtain ⟨rest, newCap, q1, q2, q3⟩ := run_append_new (type := type) ρ σ h0 h1 h2 h3 h4 hsz hinf c1 c2 hz c5 hlen (by omega) hin (hfirst w.drew rfl) hy1'
                  obtain ⟨g1, g2, g3, g4, g5⟩ := r1.drew.grown hS2 (concL_append ho1 hy2) (by simp [ho2, hy3, Nat.add_mul]) q2 q1 (by
                    cases el with
                    | none => exact .inl rfl
                    | some t => simp only; split; exact .inr rfl; exact .inl rfl)
                  have hS2g : ∀ b', S2.h.get b' = if b' = S1.next then some (.cells (old ++ new) true (some b) (match (generalizing := false) el with | some t => if Nat.beq t e then some e else none | none => none)) else S1.h.get b' := by
                    unfold St.new at hS2
                    simp only [Option.bind_eq_some_iff, Option.some.injEq, Prod.mk.injEq] at hS2
                    obtain ⟨t, ht, _, rfl⟩ := hS2
                    exact Tr.get_set _ _ _ t ht
                  have hbn : b ≠ S1.next := fun h' => by have := (r1.low b en he).1; omega
                  have hlt := (r1.low b en he).2
                  have h6 : (σ.put id ⟨w.heap.size, 0, newCap, en.esz⟩) b = some en := by simp only [Sig.put]; rw [if_neg (by omega)]; exact he
                  have h7 := g3.trim (b := b) (n := (skip + len) * en.esz) (k' := some id) (k := k) (by rw [hS2g, if_neg hbn]; exact r3) h6 (fun b' o' e1 hne hb' he' => by
                    rw [hS2g] at hb'
                    simp only [Sig.put] at he'
                    by_cases c : b' = S1.next
                    · rw [if_pos (by omega)] at he'
                      simp at he'; subst he'
                      simp; omega
                    · rw [if_neg c] at hb'
                      rw [if_neg (by omega)] at he'
                      exact r6 b' o' e1 hne hb' he') hS3
                  refine ⟨_, _, _, q3, g5 _ q1, h7, ?_, ?_⟩
                  · rw [← r2]; exact g4
                  · simp only; omega
        · cases h
  · cases h

end
end Go.Sx
