/- The operations that need no memory, one by one. -/
import Derived.Test.YtbnjflmahipanaaGreatDoorSxBin
namespace Go.Sx
set_option linter.unusedSimpArgs false
set_option linter.unusedVariables false

section
variable {P : Program} {ρ : Env} {σ : Sig}

/-! ### Parts written into an aggregate -/

theorem concL_setAt : ∀ {cs cs' : List AV} {xs : List Value} {n : Nat} {v : AV} {x : Value}, setAt cs n v = some cs' → concL ρ σ cs = some xs → conc ρ σ v = some x →
    setAt xs n x = some (xs.set n x) ∧ concL ρ σ cs' = some (xs.set n x)
  | [], _, _, _, _, _, h, _, _ => by simp [setAt] at h
  | c :: cs, cs', xs, 0, v, x, h, hx, hv => by
    simp only [concL, Option.bind_eq_some_iff] at hx
    obtain ⟨y, hy, ys, hys, hx⟩ := hx
    simp at hx; subst hx
    simp [setAt] at h; subst h
    simp [setAt, concL, hv, hys]
  | c :: cs, cs', xs, n + 1, v, x, h, hx, hv => by
    simp only [concL, Option.bind_eq_some_iff] at hx
    obtain ⟨y, hy, ys, hys, hx⟩ := hx
    simp at hx; subst hx
    simp only [setAt, Option.bind_eq_some_iff] at h
    obtain ⟨m, hm, h⟩ := h
    simp at h; subst h
    obtain ⟨h1, h2⟩ := concL_setAt hm hys hv
    simp [setAt, h1, concL, hy, h2]

theorem concL_setMany : ∀ {vs cs cs' : List AV} {xs ys : List Value} {n : Nat}, setMany cs n vs = some cs' → concL ρ σ cs = some xs → concL ρ σ vs = some ys →
    ∃ xs', setMany xs n ys = some xs' ∧ concL ρ σ cs' = some xs'
  | [], cs, cs', xs, ys, n, h, hx, hy => by
    simp [setMany] at h; subst h
    simp [concL] at hy; subst hy
    exact ⟨xs, by simp [setMany], hx⟩
  | v :: vs, cs, cs', xs, ys, n, h, hx, hy => by
    simp only [concL, Option.bind_eq_some_iff] at hy
    obtain ⟨y, hy, ys', hys, he⟩ := hy
    simp at he; subst he
    simp only [setMany, Option.bind_eq_some_iff] at h
    obtain ⟨m, hm, h⟩ := h
    obtain ⟨h1, h2⟩ := concL_setAt hm hx hy
    obtain ⟨xs', h3, h4⟩ := concL_setMany h h2 hys
    exact ⟨xs', by simp [setMany, h1, h3], h4⟩

theorem foldl_setMany : ∀ (vs xs xs' : List Value) (off k : Nat), setMany xs (off + k) vs = some xs' →
    ((vs.zipIdx k).foldl (fun (cs : Array Value) (p : Value × Nat) => cs.setIfInBounds (off + p.2) p.1) xs.toArray) = xs'.toArray
  | [], xs, xs', off, k, h => by simp [setMany] at h; subst h; simp
  | v :: vs, xs, xs', off, k, h => by
    simp only [setMany, Option.bind_eq_some_iff] at h
    obtain ⟨m, hm, h⟩ := h
    obtain ⟨rfl, hl⟩ := setAt_spec hm
    have := foldl_setMany vs (xs.set (off + k) v) xs' off (k + 1) (by rw [← h]; congr 1)
    simpa using this

theorem cells_toList {v : AV} {x : Value} (h : conc ρ σ v = some x) : ∃ ys, concL ρ σ v.cellsOf = some ys ∧ x.cells = ys.toArray := by
  by_cases ha : ∃ cs, v = .agg cs
  · obtain ⟨cs, rfl⟩ := ha
    obtain ⟨xs, hx, rfl⟩ := inv_agg h
    exact ⟨xs, hx, rfl⟩
  · have e1 : v.cellsOf = [v] := by cases v <;> first | rfl | exact absurd ⟨_, rfl⟩ ha
    have e2 : x.cells = #[x] := by
      cases v
      case agg cs => exact absurd ⟨_, rfl⟩ ha
      case opq k => simp only [conc] at h; split at h <;> simp at h; rename_i ho; subst h; revert ho; cases ρ k <;> simp [oneV, Value.cells]
      case bool => obtain rfl := inv_bool h; rfl
      case int => obtain rfl := inv_int h; rfl
      case str => obtain ⟨rfl, _⟩ := inv_str h; rfl
      case nilp => obtain rfl := inv_nilp h; rfl
      case ptr => obtain ⟨_, _, rfl⟩ := inv_ptr h; rfl
      case nils => obtain rfl := inv_nils h; rfl
      case slice => obtain ⟨_, _, rfl⟩ := inv_slice h; rfl
      case gslice => obtain ⟨_, _, _, _, rfl⟩ := inv_gslice h; rfl
      case nilm => obtain rfl := inv_nilm h; rfl
      case map => obtain ⟨_, _, rfl⟩ := inv_map h; rfl
      case nilf => obtain rfl := inv_nilf h; rfl
      case func => obtain ⟨_, _, _, _, rfl⟩ := inv_func h; rfl
      case nili => obtain rfl := inv_nili h; rfl
      case iface => obtain ⟨_, _, rfl⟩ := inv_iface h; rfl
      case tuple => obtain ⟨_, _, rfl⟩ := inv_tuple h; rfl
      case ops => obtain ⟨_, _, _, _, rfl⟩ := inv_ops h; rfl
      case opl => obtain ⟨_, _, _, _, rfl⟩ := inv_opl h; rfl
      case gptr => obtain rfl := inv_gptr h; rfl
      case yld => obtain ⟨_, _, rfl⟩ := inv_yld h; rfl
      case eslice => obtain ⟨_, _, _, _, rfl⟩ := inv_eslice h; rfl
    rw [e1, e2]
    exact ⟨[x], by simp [concL, h], rfl⟩

/-- The parts, one by one. -/
inductive PartsRel (ρ : Env) (σ : Sig) : List (Nat × AV) → List (Nat × Value) → Prop
  | nil : PartsRel ρ σ [] []
  | cons {i : Nat} {v : AV} {x : Value} {l : List (Nat × AV)} {m : List (Nat × Value)} : conc ρ σ v = some x → PartsRel ρ σ l m → PartsRel ρ σ ((i, v) :: l) ((i, x) :: m)

theorem evP_rel {ev : Operand → Option AV} {ev' : Operand → Value} (he : ER ρ σ ev ev') : ∀ {l : List (Nat × Operand)} {ps : List (Nat × AV)}, evP ev l = some ps → PartsRel ρ σ ps (l.map fun (i, x) => (i, ev' x))
  | [], ps, h => by simp [evP] at h; subst h; exact .nil
  | (i, x) :: l, ps, h => by
    simp only [evP, Option.bind_eq_some_iff, Option.some.injEq] at h
    obtain ⟨v, hv, vs, hvs, rfl⟩ := h
    exact .cons (he _ _ hv) (evP_rel he hvs)

theorem evL_rel {ev : Operand → Option AV} {ev' : Operand → Value} (he : ER ρ σ ev ev') : ∀ {l : List Operand} {vs : List AV}, evL ev l = some vs → concL ρ σ vs = some (l.map ev')
  | [], vs, h => by simp [evL] at h; subst h; rfl
  | x :: l, vs, h => by
    simp only [evL, Option.bind_eq_some_iff, Option.some.injEq] at h
    obtain ⟨v, hv, vs', hvs, rfl⟩ := h
    simp [concL, he _ _ hv, evL_rel he hvs]

theorem fill_filled {place place' : Nat → Option (Nat × Nat)} (hp : ∀ i p, place i = some p → place' i = some p) : ∀ {ps : List (Nat × AV)} {qs : List (Nat × Value)} {cs cs' : List AV} {xs : List Value},
    PartsRel ρ σ ps qs → filled place cs ps = some cs' → concL ρ σ cs = some xs → ∃ xs', Instr.fill place' xs.toArray qs = some xs'.toArray ∧ concL ρ σ cs' = some xs'
  | [], _, cs, cs', xs, .nil, h, hx => by simp [filled] at h; subst h; exact ⟨xs, by simp [Instr.fill], hx⟩
  | (i, v) :: ps, _, cs, cs', xs, .cons (x := x) (m := m) hv hr, h, hx => by
    simp only [filled, Option.bind_eq_some_iff] at h
    obtain ⟨⟨off, size⟩, hpl, h⟩ := h
    simp only at h
    split at h
    · rename_i hs
      simp only [Bool.and_eq_true, Nat.ble_eq] at hs
      obtain ⟨hs, hoff⟩ := hs
      have hs := Nat.eq_of_beq_eq_true hs
      simp only [Option.bind_eq_some_iff] at h
      obtain ⟨cs1, h1, h⟩ := h
      obtain ⟨ys, hys, hxc⟩ := cells_toList hv
      obtain ⟨xs1, h2, h3⟩ := concL_setMany h1 hx hys
      obtain ⟨xs', h4, h5⟩ := fill_filled hp hr h h3
      refine ⟨xs', ?_, h5⟩
      have hlen := concL_length hys
      obtain ⟨q1, q2, _⟩ := setMany_spec h2
      simp only [Instr.fill, hp i _ hpl, hxc]
      have hcond : ¬ (ys.toArray.size ≠ size ∨ off + ys.toArray.size > xs.toArray.size) := by
        simp
        refine ⟨by omega, ?_⟩
        by_cases hy : ys = []
        · subst hy
          have := concL_length hx
          simp
          omega
        · exact q2 hy
      have hcond' : (ys.toArray.size ≠ size || decide (off + ys.toArray.size > xs.toArray.size)) = false := by simpa using hcond
      simp only [hcond', Bool.false_eq_true, if_false]
      have := foldl_setMany ys xs xs1 off 0 (by simpa using h2)
      have e : (ys.toArray.zipIdx.foldl (fun cs x => match x with | (c, j) => cs.setIfInBounds (off + j) c) xs.toArray) = xs1.toArray := by
        rw [← this]; simp
      rw [e]; exact h4
    · cases h

theorem run_zeroValue {t : TypeId} {z : AV} (h : zeroOf P t = some z) (w : World) : ∃ x, (zeroValue t).run P w = .ok x w ∧ conc ρ σ z = some x := by
  unfold zeroOf at h
  simp only [Option.bind_eq_some_iff] at h
  obtain ⟨i, hi, x, hx, hz⟩ := h
  exact ⟨x, by simp [zeroValue, typeInfo, hi, hx], conc_ofValue σ 3 x z hz⟩

theorem run_mapM_fields {fs : List Field} (hall : ∀ f ∈ fs, ∃ n, tsize P f.type = some n) (w : World) :
    (fs.mapM fun f => (do pure (f.offset, ← sizeOf f.type) : Sem (Nat × Nat))).run P w = .ok (fs.map fun f => (f.offset, (tsize P f.type).getD 0)) w := by
  induction fs with
  | nil => simp
  | cons f fs ih =>
    obtain ⟨n, hn⟩ := hall f (by simp)
    have := ih (fun g hg => hall g (by simp [hg]))
    simp only [List.mapM_cons, Sem.run_bind, run_sizeOf hn, Result.andThen_ok, Sem.run_pure, this, List.map_cons, hn, Option.getD_some]

/-- The bounds of a slice expression. -/
theorem run_sliceBound {n : Int} {k : IntKind} {y m : Nat} {code : BoundsCode} (h : upTo n y = some m) (w : World) : (Instr.sliceBound (.int k n) y code).run P w = .ok m w := by
  unfold upTo at h
  split at h
  · rename_i a
    split at h
    · rename_i ha
      simp at h ha; subst h
      simp [Instr.sliceBound, asIntOf, ha]
    · cases h
  · cases h

theorem run_bounds {isSlice : Bool} {len cap : Nat} {low high max : Option AV} {low' high' max' : Option Value} {l h m : Nat} (hb : abounds len cap low high max = some (l, h, m))
    (hl : ∀ v, low = some v → ∃ x, low' = some x ∧ conc ρ σ v = some x) (hl' : low = none → low' = none)
    (hh : ∀ v, high = some v → ∃ x, high' = some x ∧ conc ρ σ v = some x) (hh' : high = none → high' = none)
    (hm : ∀ v, max = some v → ∃ x, max' = some x ∧ conc ρ σ v = some x) (hm' : max = none → max' = none) (w : World) :
    (Instr.sliceBounds isSlice len cap low' high' max').run P w = .ok (l, h, m) w := by
  unfold abounds at hb
  simp only [Option.bind_eq_some_iff, Option.some.injEq, Prod.mk.injEq] at hb
  obtain ⟨m1, h1, h2, h3, l1, h4, rfl, rfl, rfl⟩ := hb
  have e3 : ∀ (code : BoundsCode) (m : Nat), (match (generalizing := false) low' with | some v => (do let l ← Instr.sliceBound v h2 code; pure (l, h2, m)) | none => (do let l ← pure 0; pure (l, h2, m)) : Sem (Nat × Nat × Nat)).run P w = .ok (l1, h2, m) w := by
    intro code m
    split at h4
    · obtain ⟨x, rfl, hx⟩ := hl _ rfl
      obtain rfl := inv_int hx
      simp only [Sem.run_bind, run_sliceBound h4 w, Result.andThen_ok, Sem.run_pure]
    · obtain rfl := hl' rfl
      simp at h4; subst h4; simp
    · cases h4
  unfold Instr.sliceBounds
  cases max with
  | none =>
    obtain rfl := hm' rfl
    simp at h1; subst h1
    simp only [Sem.run_bind, Sem.run_pure, Result.andThen_ok]
    cases high with
    | none =>
      obtain rfl := hh' rfl
      simp at h3; subst h3
      simp only [Sem.run_bind, Sem.run_pure, Result.andThen_ok]; exact e3 _ _
    | some hv =>
      obtain ⟨x, rfl, hx⟩ := hh _ rfl
      split at h3
      · rename_i heq
        simp at heq; subst heq
        obtain rfl := inv_int hx
        simp only [Sem.run_bind, run_sliceBound h3 w, Result.andThen_ok]; exact e3 _ _
      · rename_i heq; cases heq
      · cases h3
  | some mv =>
    obtain ⟨x, rfl, hx⟩ := hm _ rfl
    split at h1
    · rename_i heq
      simp at heq; subst heq
      obtain rfl := inv_int hx
      simp only [Sem.run_bind, run_sliceBound h1 w, Result.andThen_ok]
      cases high with
      | none => simp at h3
      | some hv =>
        obtain ⟨x, rfl, hx⟩ := hh _ rfl
        split at h3
        · rename_i heq
          simp at heq; subst heq
          obtain rfl := inv_int hx
          simp only [Sem.run_bind, run_sliceBound h3 w, Result.andThen_ok]; exact e3 _ _
        · rename_i heq; cases heq
        · cases h3
    · rename_i heq; cases heq
    · cases h1

end
end Go.Sx
