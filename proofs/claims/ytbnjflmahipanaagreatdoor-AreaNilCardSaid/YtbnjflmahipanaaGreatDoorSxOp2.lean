/- What needs no memory: all of it. -/
import Derived.Test.YtbnjflmahipanaaGreatDoorSxOp1
namespace Go.Sx
set_option linter.unusedSimpArgs false
set_option linter.unusedVariables false

section
variable {P : Program} {ρ : Env} {σ : Sig}

theorem upTo_le {n : Int} {m k : Nat} (h : upTo n m = some k) : k ≤ m := by
  unfold upTo at h
  split at h
  · split at h
    · rename_i ha; simp at h ha; omega
    · cases h
  · cases h

theorem upTo_more {n : Int} {m m' k : Nat} (h : upTo n m = some k) (hle : m ≤ m') : upTo n m' = some k := by
  unfold upTo at h ⊢
  split at h
  · split at h
    · rename_i ha; simp at h ha; subst h; simp; omega
    · cases h
  · cases h

theorem abounds_spec {len cap : Nat} {low high max : Option AV} {l h m : Nat} (hb : abounds len cap low high max = some (l, h, m)) : l ≤ h ∧ (h ≤ m ∨ h = len) ∧ m ≤ cap ∧ (max = none → m = cap) := by
  unfold abounds at hb
  simp only [Option.bind_eq_some_iff, Option.some.injEq, Prod.mk.injEq] at hb
  obtain ⟨m1, h1, h2, h3, l1, h4, rfl, rfl, rfl⟩ := hb
  refine ⟨?_, ?_, ?_, ?_⟩
  · split at h4
    · exact upTo_le h4
    · simp at h4; omega
    · cases h4
  · split at h3
    · exact .inl (upTo_le h3)
    · split at h3
      · cases h3
      · simp at h3; exact .inr h3.symm
    · cases h3
  · split at h1
    · exact upTo_le h1
    · simp at h1; omega
    · cases h1
  · rintro rfl
    simp at h1; omega

theorem abounds_more {len cap : Nat} {low high max : Option AV} {l h m : Nat} (hb : abounds len len low high max = some (l, h, m)) (hle : len ≤ cap) :
    abounds len cap low high max = some (l, h, if max.isSome then m else cap) := by
  unfold abounds at hb ⊢
  simp only [Option.bind_eq_some_iff, Option.some.injEq, Prod.mk.injEq] at hb
  obtain ⟨m1, h1, h2, h3, l1, h4, rfl, rfl, rfl⟩ := hb
  cases max with
  | none =>
    simp at h1; subst h1
    cases high with
    | none => simp at h3; subst h3; simp [h4]
    | some hv =>
      cases hv <;> simp at h3
      simp [upTo_more h3 hle, h4]
  | some mv =>
    cases mv <;> simp at h1
    cases high with
    | none => simp at h3
    | some hv =>
      cases hv <;> simp at h3
      simp [upTo_more h1 hle, h3, h4]

theorem run_aslice {t : TypeId} {v r : AV} {x : Value} {low high max : Option AV} {low' high' max' : Option Value} (h : aslice P t v low high max = some r) (hx : conc ρ σ v = some x)
    (hl : ∀ v, low = some v → ∃ x, low' = some x ∧ conc ρ σ v = some x) (hl' : low = none → low' = none)
    (hh : ∀ v, high = some v → ∃ x, high' = some x ∧ conc ρ σ v = some x) (hh' : high = none → high' = none)
    (hm : ∀ v, max = some v → ∃ x, max' = some x ∧ conc ρ σ v = some x) (hm' : max = none → max' = none) (w : World) :
    ∃ z, (Instr.sliceAt t x low' high' max').run P w = .ok z w ∧ conc ρ σ r = some z := by
  unfold aslice at h
  simp only [Option.bind_eq_some_iff] at h
  obtain ⟨u, hu, h⟩ := h
  split at h
  · -- a string
    rename_i s
    obtain ⟨rfl, hs⟩ := inv_str hx
    split at h
    · cases h
    · rename_i hmx
      have hmx : max = none := by simpa using hmx
      subst hmx
      obtain rfl := hm' rfl
      simp only [Option.bind_eq_some_iff, Option.some.injEq] at h
      obtain ⟨⟨l, hi, m⟩, hb, rfl⟩ := h
      have hb' := run_bounds (P := P) (isSlice := false) hb hl hl' hh hh' hm hm' w
      refine ⟨.string (bytesOf ((s.take hi).drop l)), ?_, ?_⟩
      · simp only [Instr.sliceAt, Sem.run_bind, run_underlying hu, Result.andThen_ok, Instr.slice, bytesOf_size, Option.isSome_none, Bool.false_eq_true, if_false, hb', Sem.run_pure, bytesOf_extract]
      · simp only [conc]
        rw [if_pos (small_all fun c hc => hs c (List.mem_of_mem_take (List.mem_of_mem_drop hc)))]
  · -- nil
    obtain rfl := inv_nils hx
    simp only [Option.bind_eq_some_iff, Option.some.injEq] at h
    obtain ⟨⟨l, hi, m⟩, hb, h⟩ := h
    have hb' := run_bounds (P := P) (isSlice := true) hb hl hl' hh hh' hm hm' w
    obtain ⟨z1, z2, z3, _⟩ := abounds_spec hb
    obtain ⟨rfl, rfl, rfl⟩ : l = 0 ∧ hi = 0 ∧ m = 0 := by omega
    obtain ⟨sz, hsz, h⟩ := h
    subst h
    refine ⟨.slice none 0 0, ?_, by simp [conc]⟩
    simp [Instr.sliceAt, run_underlying hu, Instr.slice, hb', run_sizeOf hsz]
  · -- a slice
    rename_i e b off len cap
    obtain ⟨en, hen, rfl⟩ := inv_slice hx
    simp only [Option.bind_eq_some_iff] at h
    obtain ⟨⟨l, hi, m⟩, hb, sz, hsz, h⟩ := h
    simp only [Option.some.injEq] at h
    subst h
    have hb' := run_bounds (P := P) (isSlice := true) hb hl hl' hh hh' hm hm' w
    refine ⟨.slice (some (if m = l then ⟨en.blk, en.off + off, none⟩ else ⟨en.blk, en.off + off + l * sz, none⟩)) (hi - l) (m - l), ?_, ?_⟩
    · simp only [Instr.sliceAt, Sem.run_bind, run_underlying hu, Result.andThen_ok, Instr.slice, hb', run_sizeOf hsz, Sem.run_pure]
      congr 2
      split <;> simp [add_none]
    · simp only [conc, hen, Option.bind_some]
      congr 2
      by_cases hml : m = l
      · simp [hml]
      · simp [hml]; omega
  · -- a slice that grew
    rename_i e b skip len esz
    obtain ⟨en, hen, hcap, hesz, rfl⟩ := inv_gslice hx
    split at h
    · obtain rfl := hm' rfl
      simp only [Option.bind_eq_some_iff] at h
      obtain ⟨⟨l, hi, m⟩, hb, sz, hsz, h⟩ := h
      simp only at h
      split at h
      · rename_i c1
        have c1 := Nat.eq_of_beq_eq_true c1
        subst c1
        split at h
        case isFalse c2 =>
          simp only [Option.some.injEq] at h
          subst h
          have hb2 := abounds_more hb (cap := en.cap - skip) (by omega)
          have hb' := run_bounds (P := P) (isSlice := true) hb2 hl hl' hh hh' hm hm' w
          obtain ⟨z1, z2, z3, z4⟩ := abounds_spec hb
          simp only [Option.isSome_none, Bool.false_eq_true, if_false] at hb'
          have c3 : l ≠ 0 ∧ ¬ l < len := by
            simp only [Bool.or_eq_true, not_or, Nat.blt_eq] at c2
            exact ⟨fun h => c2.1 (by subst h; rfl), c2.2⟩
          refine ⟨.slice (some (if en.cap - skip = l then ⟨en.blk, en.off + skip * sz, none⟩ else ⟨en.blk, en.off + skip * sz + l * sz, none⟩)) (hi - l) (en.cap - skip - l), ?_, ?_⟩
          · simp only [Instr.sliceAt, Sem.run_bind, run_underlying hu, Result.andThen_ok, Instr.slice, hb', run_sizeOf hsz, Sem.run_pure]
            congr 2
            split <;> simp_all [add_none]
          · simp only [conc, hen, Option.bind_some]
            rw [if_pos ⟨by omega, hesz⟩]
            have h0 : hi - l = 0 := by omega
            have h1 : en.cap - (skip + l) = en.cap - skip - l := by omega
            rw [h0, h1]
            by_cases hcl : en.cap = skip + l
            · have h2 : en.cap - skip = l := by omega
              rw [if_pos hcl, if_pos h2]
            · have h2 : ¬ en.cap - skip = l := by omega
              rw [if_neg hcl, if_neg h2]
              have h3 : en.off + (skip + l) * sz = en.off + skip * sz + l * sz := by rw [Nat.add_mul]; omega
              rw [h3]
        rename_i c2
        simp only [Bool.or_eq_true] at c2
        simp only [Option.some.injEq] at h
        subst h
        have hb2 := abounds_more hb (cap := en.cap - skip) (by omega)
        have hb' := run_bounds (P := P) (isSlice := true) hb2 hl hl' hh hh' hm hm' w
        obtain ⟨z1, z2, z3, z4⟩ := abounds_spec hb
        simp only [Option.isSome_none, Bool.false_eq_true, if_false] at hb'
        have c2 : l = 0 ∨ l < len := c2.imp Nat.eq_of_beq_eq_true (by simpa using ·)
        refine ⟨.slice (some ⟨en.blk, en.off + skip * sz + l * sz, none⟩) (hi - l) (en.cap - skip - l), ?_, ?_⟩
        · simp only [Instr.sliceAt, Sem.run_bind, run_underlying hu, Result.andThen_ok, Instr.slice, hb', run_sizeOf hsz, Sem.run_pure]
          congr 2
          split
          · have : l = 0 := by omega
            subst this; simp
          · simp [add_none]
        · simp only [conc, hen, Option.bind_some]
          rw [if_pos ⟨by omega, hesz⟩]
          congr 2
          · congr 2; rw [Nat.add_mul]; omega
          · omega
      · cases h
    · rename_i mv
      simp only [Option.bind_eq_some_iff] at h
      obtain ⟨⟨l, hi, m⟩, hb, sz, hsz, h⟩ := h
      simp only at h
      split at h
      · rename_i hc
        have c1 := Nat.eq_of_beq_eq_true hc
        subst c1
        simp only [Option.some.injEq] at h
        subst h
        have hb2 := abounds_more hb (cap := en.cap - skip) (by omega)
        have hb' := run_bounds (P := P) (isSlice := true) hb2 hl hl' hh hh' hm hm' w
        simp only [Option.isSome_some, if_true] at hb'
        refine ⟨.slice (some (if m = l then ⟨en.blk, en.off + skip * sz, none⟩ else ⟨en.blk, en.off + skip * sz + l * sz, none⟩)) (hi - l) (m - l), ?_, ?_⟩
        · simp only [Instr.sliceAt, Sem.run_bind, run_underlying hu, Result.andThen_ok, Instr.slice, hb', run_sizeOf hsz, Sem.run_pure]
          congr 2
          split <;> simp [add_none]
        · simp only [conc, hen, Option.bind_some]
          congr 2
          by_cases hml : m = l
          · simp [hml]
          · simp [hml]; rw [Nat.add_mul]; omega
      · cases h
  · -- an array
    rename_i n e b off
    obtain ⟨en, hen, rfl⟩ := inv_ptr hx
    simp only [Option.bind_eq_some_iff] at h
    obtain ⟨⟨l, hi, m⟩, hb, sz, hsz, h⟩ := h
    simp only [Option.some.injEq] at h
    subst h
    have hb' := run_bounds (P := P) (isSlice := false) hb hl hl' hh hh' hm hm' w
    refine ⟨.slice (some (if m = l then ⟨en.blk, en.off + off, none⟩ else ⟨en.blk, en.off + off + l * sz, none⟩)) (hi - l) (m - l), ?_, ?_⟩
    · simp only [Instr.sliceAt, Sem.run_bind, run_underlying hu, Result.andThen_ok, Instr.sureAddr, Sem.run_pure, hb', run_sizeOf hsz]
      congr 2
      split <;> simp [add_none]
    · simp only [conc, hen, Option.bind_some]
      congr 2
      by_cases hml : m = l
      · simp [hml]
      · simp [hml]; omega
  · cases h

end
end Go.Sx
