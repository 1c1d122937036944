/- Loads and stores of the model on related worlds. -/
import Derived.Test.YtbnjflmahipanaaGreatDoorSxRel
import Derived.Laws.Entries
namespace Go.Sx
set_option linter.unusedSimpArgs false
set_option linter.unusedVariables false

/-! ### Lists -/

theorem setAt_spec {α : Type} : ∀ {l : List α} {n : Nat} {v : α} {l' : List α}, setAt l n v = some l' → l' = l.set n v ∧ n < l.length
  | [], _, _, _, h => by simp [setAt] at h
  | x :: l, 0, v, l', h => by simp [setAt] at h; subst h; simp
  | x :: l, n + 1, v, l', h => by
    simp only [setAt, Option.bind_eq_some_iff] at h
    obtain ⟨m, hm, h⟩ := h
    simp at h
    subst h
    have := setAt_spec hm
    simp [this.1, this.2]

theorem setMany_spec {α : Type} : ∀ {vs l : List α} {n : Nat} {l' : List α}, setMany l n vs = some l' →
    l'.length = l.length ∧ (vs ≠ [] → n + vs.length ≤ l.length) ∧ ∀ i : Nat, l'[i]? = if n ≤ i ∧ i < n + vs.length then vs[i - n]? else l[i]?
  | [], l, n, l', h => by simp [setMany] at h; subst h; simp; intro i h1 h2; omega
  | v :: vs, l, n, l', h => by
    simp only [setMany, Option.bind_eq_some_iff] at h
    obtain ⟨m, hm, h⟩ := h
    obtain ⟨rfl, hn⟩ := setAt_spec hm
    obtain ⟨h1, h2, h3⟩ := setMany_spec h
    refine ⟨by simp [h1], fun _ => ?_, fun i => ?_⟩
    · by_cases he : vs = []
      · subst he; simp; omega
      · have := h2 he; simp at this ⊢; omega
    · rw [h3 i]
      by_cases hi : n + 1 ≤ i ∧ i < n + 1 + vs.length
      · rw [if_pos hi, if_pos (by simp; omega)]
        have : i - n = (i - (n + 1)) + 1 := by omega
        rw [this]; simp
      · rw [if_neg hi]
        by_cases he : i = n
        · subst he; rw [if_pos (by simp)]; simp [hn]
        · rw [if_neg (by simp; omega), List.getElem?_set_ne (by omega)]

theorem getMany_spec {α : Type} {l r : List α} {a n : Nat} (h : getMany l a n = some r) : r.length = n ∧ ∀ i : Nat, i < n → r[i]? = l[a + i]? := by
  unfold getMany at h
  simp only at h
  split at h
  · rename_i hl
    simp at h hl
    subst h
    refine ⟨by simp; omega, fun i hi => ?_⟩
    simp [hi]
  · cases h

/-! ### Addresses -/

theorem add_none (b o n : Nat) : (⟨b, o, none⟩ : Addr).add n = ⟨b, o + n, none⟩ := by
  unfold Addr.add
  split
  · simp [*]
  · rfl

/-! ### Loads -/

section
variable {P : Program} {ρ : Env} {σ : Sig} {w : World}

theorem run_loadCellsFrom (b o : Nat) : ∀ (n i : Nat) (xs : List Value) (acc : Array Value), xs.length = n → (∀ j, j < n → w.cell? ⟨b, o + (i + j), none⟩ = xs[j]?) →
    (loadCellsFrom ⟨b, o, none⟩ i n acc).run P w = .ok (acc ++ xs.toArray) w
  | 0, i, xs, acc, h, _ => by
    have : xs = [] := by simpa using h
    subst this
    simp [loadCellsFrom]
  | n + 1, i, x :: xs, acc, h, hc => by
    have h0 := hc 0 (by omega)
    simp at h0
    have ih := run_loadCellsFrom b o n (i + 1) xs (acc.push x) (by simpa using h) (fun j hj => by
      have := hc (j + 1) (by omega)
      simp at this
      rw [← this]
      congr 2; omega)
    simp only [loadCellsFrom, add_none, load, bind, Sem.bind, Sem.run, h0]
    rw [ih]
    simp
  | n + 1, i, [], acc, h, _ => by simp at h

theorem run_loadCells (b o n : Nat) (xs : List Value) (h : xs.length = n) (hc : ∀ j, j < n → w.cell? ⟨b, o + j, none⟩ = xs[j]?) :
    (loadCells ⟨b, o, none⟩ n).run P w = .ok xs.toArray w := by
  unfold loadCells
  rw [run_loadCellsFrom b o n 0 xs #[] h (by simpa using hc)]
  simp

/-- What cells hold, as a list. -/
theorem CellsRel.many {e : Ent} {cs : List AV} {g : Bool} {el : Option TypeId} (h : CellsRel ρ σ w e cs g el) {off n : Nat} {r : List AV} (hr : getMany cs off n = some r) :
    ∃ xs, concL ρ σ r = some xs ∧ xs.length = n ∧ ∀ j, j < n → w.cell? ⟨e.blk, e.off + off + j, none⟩ = xs[j]? := by
  obtain ⟨hl, hg⟩ := getMany_spec hr
  have hall : ∀ v ∈ r, (conc ρ σ v).isSome := fun v hv => by
    obtain ⟨i, hi, rfl⟩ := List.mem_iff_getElem.1 hv
    have := hg i (by omega)
    rw [List.getElem?_eq_getElem hi] at this
    obtain ⟨x, _, h2, _⟩ := h.cell _ _ this.symm
    simp [h2]
  obtain ⟨xs, hxs⟩ := concL_some_of hall
  have hlen := concL_length hxs
  refine ⟨xs, hxs, by omega, fun j hj => ?_⟩
  have h1 := concL_get hxs j
  have h2 := hg j hj
  have hj' : j < r.length := by omega
  rw [List.getElem?_eq_getElem hj'] at h1 h2
  obtain ⟨x, h3, h4, _⟩ := h.cell _ _ h2.symm
  simp [h4] at h1
  rw [← h1, ← h3]
  congr 2; omega

theorem run_isAgg {t : TypeId} {b : Bool} (h : isAggT P t = some b) (w : World) : (isAgg t).run P w = .ok b w := by
  unfold isAggT at h
  simp only [Option.map_eq_some_iff] at h
  obtain ⟨d, hd, rfl⟩ := h
  unfold isAgg
  cases d <;> simp [run_underlying hd]

theorem run_sizeOf {t : TypeId} {n : Nat} (h : tsize P t = some n) (w : World) : (sizeOf t).run P w = .ok n w := by
  unfold tsize at h
  simp only [Option.map_eq_some_iff] at h
  obtain ⟨i, hi, rfl⟩ := h
  simp [sizeOf, typeInfo, hi]

/-- A variable is read. -/
theorem run_loadVar {e : Ent} {cs : List AV} {g : Bool} {el : Option TypeId} (h : CellsRel ρ σ w e cs g el) {t : TypeId} {off : Nat} {v : AV}
    (hv : ((isAggT P t).bind fun ag => if ag then (tsize P t).bind fun n => (getMany cs off n).bind fun l => some (AV.agg l) else cs[off]?) = some v) :
    ∃ x, (loadVar t ⟨e.blk, e.off + off, none⟩).run P w = .ok x w ∧ conc ρ σ v = some x := by
  simp only [Option.bind_eq_some_iff] at hv
  obtain ⟨ag, hag, hv⟩ := hv
  have h0 := run_isAgg hag w
  cases ag with
  | true =>
    simp only [if_true, Option.bind_eq_some_iff] at hv
    obtain ⟨n, hn, l, hl, hv⟩ := hv
    simp at hv
    subst hv
    obtain ⟨xs, h1, h2, h3⟩ := h.many hl
    refine ⟨.agg xs.toArray, ?_, by simp [conc, h1]⟩
    simp [loadVar, h0, run_sizeOf hn, run_loadCells e.blk (e.off + off) n xs h2 h3]
  | false =>
    simp at hv
    obtain ⟨x, h1, h2, _⟩ := h.cell _ _ hv
    refine ⟨x, ?_, h2⟩
    simp [loadVar, h0, h1]

/-! ### Stores -/

structure Wrote (w w' : World) (blk o : Nat) (xs : List Value) : Prop where
  size : w'.heap.size = w.heap.size
  other : ∀ r, r ≠ blk → w'.heap[r]? = w.heap[r]?
  cell : ∀ i, w'.cell? ⟨blk, i, none⟩ = if o ≤ i ∧ i < o + xs.length then xs[i - o]? else w.cell? ⟨blk, i, none⟩
  frozen : ∀ i, w'.frozen? ⟨blk, i, none⟩ = w.frozen? ⟨blk, i, none⟩
  shape : w'.shape? blk = w.shape? blk
  calm : Calm w w'

theorem Wrote.nil (w : World) (blk o : Nat) : Wrote w w blk o [] :=
  ⟨rfl, fun _ _ => rfl, fun i => by rw [if_neg (by simp)], fun _ => rfl, rfl, ⟨rfl, rfl, rfl⟩⟩

theorem shape_setCell (w : World) (a : Addr) (v : Value) (r : Nat) : (w.setCell a v).shape? r = w.shape? r := by
  simp only [World.setCell, World.shape?, Array.getElem?_modify]
  by_cases hr : a.block = r
  · subst hr
    rw [if_pos rfl]
    cases h : w.heap[a.block]? with
    | none => simp
    | some o => cases o <;> simp; split <;> simp
  · rw [if_neg hr]

theorem heap_setCell_other (w : World) (a : Addr) (v : Value) (r : Nat) (h : r ≠ a.block) : (w.setCell a v).heap[r]? = w.heap[r]? := by
  simp only [World.setCell, Array.getElem?_modify]
  rw [if_neg (Ne.symm h)]

theorem oneV_oneCell' (v : Value) : v.oneCell' = oneV v := by cases v <;> rfl

theorem run_storeCells (blk o : Nat) : ∀ (xs : List Value) (i : Nat) (w : World), (∀ x ∈ xs, oneV x = true) →
    (∀ j, j < xs.length → (w.cell? ⟨blk, o + (i + j), none⟩).isSome = true ∧ w.frozen? ⟨blk, o + (i + j), none⟩ = false) →
    ∃ w', (storeCells ⟨blk, o, none⟩ xs i).run P w = .ok () w' ∧ Wrote w w' blk (o + i) xs
  | [], i, w, _, _ => ⟨w, by simp [storeCells], Wrote.nil _ _ _⟩
  | x :: xs, i, w, h1, h2 => by
    obtain ⟨h3, h4⟩ := h2 0 (by simp)
    simp only [Nat.add_zero] at h3 h4
    obtain ⟨u, hu⟩ := Option.isSome_iff_exists.1 h3
    have ih := run_storeCells blk o xs (i + 1) (w.setCell ⟨blk, o + i, none⟩ x) (fun y hy => h1 y (by simp [hy])) (fun j hj => by
      have := h2 (j + 1) (by simpa using hj)
      have e : o + (i + 1 + j) = o + (i + (j + 1)) := by omega
      rw [e, World.frozen?_setCell, World.cell?_setCell_other _ _ _ _ (by simp)]
      exact this)
    obtain ⟨w', hw, W⟩ := ih
    refine ⟨w', ?_, ?_⟩
    · have hs := run_store P w ⟨blk, o + i, none⟩ x .plain (by rw [oneV_oneCell']; exact h1 x (by simp))
      simp only [hu, h4, Bool.false_eq_true, if_false] at hs
      simp only [storeCells, add_none, Sem.run_bind, hs, Result.andThen_ok, hw]
    · refine ⟨by rw [W.size]; simp, fun r hr => by rw [W.other r hr, heap_setCell_other _ _ _ _ hr], fun k => ?_, fun k => by rw [W.frozen]; simp, by rw [W.shape, shape_setCell], W.calm⟩
      rw [W.cell k]
      by_cases hk : o + (i + 1) ≤ k ∧ k < o + (i + 1) + xs.length
      · rw [if_pos hk, if_pos (by simp; omega)]
        have : k - (o + i) = (k - (o + (i + 1))) + 1 := by omega
        rw [this]; simp
      · rw [if_neg hk]
        by_cases he : k = o + i
        · subst he
          rw [if_pos (by simp), World.cell?_setCell_same _ _ _ hu]
          simp
        · rw [if_neg (by simp; omega), World.cell?_setCell_other _ _ _ _ (by simp; omega)]

/-- The relation behind cells that were written into a block that lies alone. -/
theorem Rel.wrote {K : Kp} {S S' : St} {w w' : World} {b : Nat} {cs cs' : List AV} {g : Bool} {el : Option TypeId} {e : Ent} {off : Nat} {vs : List AV} {xs : List Value}
    (h : Rel ρ K S w σ) (he : σ b = some e) (hc : CellsRel ρ σ w e cs g el)
    (hal : ∀ b' o' e', b' ≠ b → S.h.get b' = some o' → σ b' = some e' → e'.blk ≠ e.blk) (hK : ∀ r, (K r).isSome → e.blk ≠ r)
    (hset : ∃ t, S.h.set b (.cells cs' g none el) = some t ∧ S' = ⟨t, S.next⟩)
    (hm : setMany cs off vs = some cs') (hx : concL ρ σ vs = some xs) (hw : Wrote w w' e.blk (e.off + off) xs) : Rel ρ K S' w' σ := by
  obtain ⟨t, ht, rfl⟩ := hset
  have hg := Tr.get_set S.h b _ t ht
  obtain ⟨hl, hbd, hget⟩ := setMany_spec hm
  have hlen := concL_length hx
  have hcell : CellsRel ρ σ w' e cs' g el := by
    refine ⟨fun i v hi => ?_, fun hg' i hi => ?_, fun u hu => ?_⟩
    · rw [hget i] at hi
      unfold CellAt
      rw [hw.cell, hw.frozen]
      split at hi
      · rename_i hin
        rw [if_pos (by omega)]
        have h1 := concL_get hx (i - off)
        rw [hi] at h1
        simp at h1
        have h2 : (cs[i]?).isSome = true := by
          have : vs ≠ [] := fun h0 => by subst h0; simp at hin; omega
          have := hbd this
          simp; omega
        obtain ⟨u, hu⟩ := Option.isSome_iff_exists.1 h2
        obtain ⟨_, _, _, h3⟩ := hc.cell i u hu
        have e1 : e.off + i - (e.off + off) = i - off := by omega
        have hxs : (xs[i - off]?).isSome = true := by simp; omega
        obtain ⟨x, hx'⟩ := Option.isSome_iff_exists.1 hxs
        refine ⟨x, by rw [e1]; exact hx', by rw [h1]; exact hx', h3⟩
      · rename_i hin
        rw [if_neg (by omega)]
        exact hc.cell i v hi
    · rw [hw.cell, hw.frozen]
      obtain ⟨h1, h2⟩ := hc.room hg' i hi
      refine ⟨?_, h2⟩
      split
      · have : (xs[e.off + i - (e.off + off)]?).isSome = true := by simp; omega
        exact Option.isSome_iff_exists.1 this
      · exact h1
    · obtain ⟨c, h1, h2, h3⟩ := hc.elem u hu
      exact ⟨c, by rw [hw.shape]; exact h1, fun hg => by rw [hl]; exact h2 hg, by rw [hw.frozen]; exact h3⟩
  refine ⟨fun b' e' hb' => by rw [hw.size]; exact h.low b' e' hb', fun b' o' hb' => ?_, fun b1 b2 o1 o2 e1 e2 g1 g2 s1 s2 hq => ?_, fun r ob hr => ?_, fun b' o' e' r g1 s1 hr => ?_, h.rest.calm hw.calm, h.glob⟩
  · simp only [hg] at hb'
    split at hb'
    · simp at hb'; subst hb'; subst b'; exact ⟨e, he, hcell⟩
    · rename_i hne
      obtain ⟨e', h1, h2⟩ := h.obj b' o' hb'
      exact ⟨e', h1, h2.world (hw.other _ (hal b' o' e' hne hb' h1))⟩
  · simp only [hg] at g1 g2
    by_cases q1 : b1 = b
    · by_cases q2 : b2 = b
      · left; omega
      · rw [if_neg q2] at g2
        subst q1
        rw [he] at s1
        simp at s1; subst s1
        exact absurd hq.symm (hal b2 o2 e2 q2 g2 s2)
    · rw [if_neg q1] at g1
      by_cases q2 : b2 = b
      · subst q2
        rw [he] at s2
        simp at s2; subst s2
        exact absurd hq (hal b1 o1 e1 q1 g1 s1)
      · rw [if_neg q2] at g2
        exact h.sep b1 b2 o1 o2 e1 e2 g1 g2 s1 s2 hq
  · rw [hw.other r (Ne.symm (hK r (by simp [hr])))]; exact h.keep r ob hr
  · simp only [hg] at g1
    split at g1
    · subst b'; rw [he] at s1; simp at s1; subst s1; exact hK r hr
    · exact h.apart b' o' e' r g1 s1 hr

theorem conc_one : ∀ {v : AV} {x : Value}, v.one = true → conc ρ σ v = some x → oneV x = true := by
  intro v x hv hx
  cases v <;> simp only [AV.one] at hv <;> simp only [conc, Option.bind_eq_some_iff] at hx
  case agg => simp at hv
  case tuple => simp at hv
  case opq k => split at hx <;> simp at hx; subst hx; assumption
  case str s => split at hx <;> simp at hx; subst hx; rfl
  case ptr => obtain ⟨e, _, hx⟩ := hx; simp at hx; subst hx; rfl
  case slice => obtain ⟨e, _, hx⟩ := hx; simp at hx; subst hx; rfl
  case gslice => obtain ⟨e, _, hx⟩ := hx; split at hx <;> simp at hx; subst hx; rfl
  case map => obtain ⟨e, _, hx⟩ := hx; simp at hx; subst hx; rfl
  case func => obtain ⟨e, _, f, _, hx⟩ := hx; simp at hx; subst hx; rfl
  case iface => obtain ⟨e, _, hx⟩ := hx; simp at hx; subst hx; rfl
  case ops => split at hx <;> (try (cases hx; done)); split at hx <;> (try (cases hx; done)); simp at hx; subst hx; rfl
  case opl => split at hx <;> (try (cases hx; done)); split at hx <;> (try (cases hx; done)); simp at hx; subst hx; rfl
  case yld => obtain ⟨e, _, hx⟩ := hx; simp at hx; subst hx; rfl
  case eslice => obtain ⟨e, _, hx⟩ := hx; split at hx <;> simp at hx; subst hx; rfl
  all_goals (simp at hx; subst hx; rfl)

theorem concL_one : ∀ {vs : List AV} {xs : List Value}, vs.all AV.one = true → concL ρ σ vs = some xs → ∀ x ∈ xs, oneV x = true
  | [], xs, _, h, x, hx => by simp [concL] at h; subst h; simp at hx
  | v :: vs, xs, h1, h, x, hx => by
    simp only [concL, Option.bind_eq_some_iff] at h
    obtain ⟨y, hy, ys, hys, h⟩ := h
    simp at h
    subst h
    simp at h1 hx
    rcases hx with rfl | hx
    · exact conc_one h1.1 hy
    · exact concL_one (by simpa using h1.2) hys x hx

theorem setMT_spec : ∀ {vs : List AV} {off : Nat} {T T' : Tr AV}, setMT off vs T = some T' → ∀ i, T'.get i = if off ≤ i ∧ i < off + vs.length then vs[i - off]? else T.get i
  | [], off, T, T', h, i => by
    simp only [setMT, Option.some.injEq] at h
    subst h
    rw [if_neg (by simp only [List.length_nil]; omega)]
  | v :: vs, off, T, T', h, i => by
    simp only [setMT, Option.bind_eq_some_iff] at h
    obtain ⟨T1, h1, h2⟩ := h
    rw [setMT_spec h2 i, Tr.get_set _ _ _ _ h1 i]
    by_cases hi : off + 1 ≤ i ∧ i < off + 1 + vs.length
    · rw [if_pos hi, if_pos (by simp; omega)]
      have : i - off = (i - (off + 1)) + 1 := by omega
      rw [this, List.getElem?_cons_succ]
    · rw [if_neg hi]
      by_cases he : i = off
      · subst he; rw [if_pos rfl, if_pos (by simp)]; simp
      · rw [if_neg he, if_neg (by simp; omega)]

/-- Cells written into a great row. -/
theorem Rel.writeArr {K : Kp} {S S' : St} {w : World} {b off n : Nat} {T T' : Tr AV} {z : AV} {vs : List AV} {xs : List Value} {e : Ent} {t : Tr AObj} (h : Rel ρ K S w σ) (hb : S.h.get b = some (.arr T n z)) (hone : vs.all AV.one = true)
    (hle : off + vs.length ≤ n) (hT : setMT off vs T = some T') (ht : S.h.set b (.arr T' n z) = some t) (hS : S' = ⟨t, S.next⟩) (he : σ b = some e) (hx : concL ρ σ vs = some xs) :
    ∃ w', (storeCells ⟨e.blk, e.off + off, none⟩ xs).run P w = .ok () w' ∧ Rel ρ K S' w' σ ∧ S'.next = S.next := by
  obtain ⟨e', he', ho⟩ := h.obj b _ hb
  rw [he] at he'
  simp only [Option.some.injEq] at he'
  subst he'
  have hlen := concL_length hx
  obtain ⟨w', hw, W⟩ := run_storeCells (P := P) e.blk (e.off + off) xs 0 w (concL_one hone hx) (fun j hj => by
    obtain ⟨x, z1, _, z3⟩ := ho (off + j) (by omega)
    have e1 : e.off + off + (0 + j) = e.off + (off + j) := by omega
    rw [e1, z1, z3]; simp)
  simp only [Nat.add_zero] at W
  refine ⟨w', hw, ?_, by rw [hS]⟩
  subst hS
  have hg := Tr.get_set S.h b _ t ht
  have hal : ∀ b' o1 e', b' ≠ b → S.h.get b' = some o1 → σ b' = some e' → e'.blk ≠ e.blk := fun b' o1 e' hne h1 h2 heq => by
    rcases h.sep b' b o1 _ e' e h1 hb h2 he heq with h3 | h3
    · exact hne h3
    · cases h3.2
  have hK : ∀ r, (K r).isSome → e.blk ≠ r := fun r hr => h.apart b _ e r hb he hr
  have hobj : ObjRel ρ σ w' e (.arr T' n z) := fun i hi => by
    unfold CellAt
    rw [W.cell, W.frozen]
    have hs := setMT_spec hT i
    by_cases hin : off ≤ i ∧ i < off + vs.length
    · rw [if_pos hin] at hs
      rw [if_pos (by omega)]
      have h1 := concL_get hx (i - off)
      obtain ⟨u, hu⟩ : ∃ u, vs[i - off]? = some u := ⟨vs[i - off]'(by omega), List.getElem?_eq_getElem (by omega)⟩
      rw [hu] at h1 hs
      simp only [Option.bind_some] at h1
      obtain ⟨_, _, _, h3⟩ := ho i hi
      have e1 : e.off + i - (e.off + off) = i - off := by omega
      have hlt : i - off < xs.length := by omega
      refine ⟨xs[i - off], by rw [e1, List.getElem?_eq_getElem hlt], ?_, h3⟩
      unfold arrAt
      rw [hs]
      dsimp only
      rw [h1, List.getElem?_eq_getElem hlt]
    · rw [if_neg hin] at hs
      rw [if_neg (by omega)]
      have := ho i hi
      unfold arrAt at this ⊢
      rw [hs]
      exact this
  refine ⟨fun b' e' hb' => by rw [W.size]; exact h.low b' e' hb', fun b' o' hb' => ?_, fun b1 b2 o1 o2 e1 e2 g1 g2 s1 s2 hq => ?_, fun r ob hr => ?_, fun b' o' e' r g1 s1 hr => ?_, h.rest.calm W.calm, h.glob⟩
  · simp only [hg] at hb'
    split at hb'
    · simp at hb'; subst hb'; subst b'; exact ⟨e, he, hobj⟩
    · rename_i hne
      obtain ⟨e', h1, h2⟩ := h.obj b' o' hb'
      exact ⟨e', h1, h2.world (W.other _ (hal b' o' e' hne hb' h1))⟩
  · simp only [hg] at g1 g2
    by_cases q1 : b1 = b
    · by_cases q2 : b2 = b
      · left; omega
      · rw [if_neg q2] at g2
        subst q1
        rw [he] at s1
        simp at s1; subst s1
        exact absurd hq.symm (hal b2 o2 e2 q2 g2 s2)
    · rw [if_neg q1] at g1
      by_cases q2 : b2 = b
      · subst q2
        rw [he] at s2
        simp at s2; subst s2
        exact absurd hq (hal b1 o1 e1 q1 g1 s1)
      · rw [if_neg q2] at g2
        exact h.sep b1 b2 o1 o2 e1 e2 g1 g2 s1 s2 hq
  · rw [W.other r (Ne.symm (hK r (by simp [hr])))]; exact h.keep r ob hr
  · simp only [hg] at g1
    split at g1
    · subst b'; rw [he] at s1; simp at s1; subst s1; exact hK r hr
    · exact h.apart b' o' e' r g1 s1 hr

/-- Cells written. -/
theorem Rel.write {K : Kp} {S S' : St} {w : World} {b off : Nat} {vs : List AV} {xs : List Value} {e : Ent} (h : Rel ρ K S w σ) (hS : S.write b off vs = some S')
    (he : σ b = some e) (hx : concL ρ σ vs = some xs) :
    ∃ w', (storeCells ⟨e.blk, e.off + off, none⟩ xs).run P w = .ok () w' ∧ Rel ρ K S' w' σ ∧ S'.next = S.next := by
  cases vs with
  | nil =>
    simp [St.write] at hS
    simp [concL] at hx
    subst hS; subst hx
    exact ⟨w, by simp [storeCells], h, rfl⟩
  | cons v vs =>
    simp only [St.write] at hS
    split at hS
    · cases hS
    · rename_i hone
      split at hS
      · rename_i T n z hb
        split at hS
        · rename_i hle
          simp only [Option.bind_eq_some_iff, Option.some.injEq] at hS
          obtain ⟨T', hT, t, ht, hS⟩ := hS
          exact h.writeArr hb (by simpa using hone) (by simpa using hle) hT ht hS.symm he hx
        · cases hS
      simp only [Option.bind_eq_some_iff] at hS
      obtain ⟨⟨cs, g, el, S1⟩, ha, cs', hm, t, ht, hS⟩ := hS
      simp at hS
      dsimp only at hm ht
      obtain ⟨r1, r2, r3, e', r4, r5, r6, r7, r8⟩ := h.alone ha
      rw [he] at r4
      simp at r4
      subst r4
      obtain ⟨q1, q2, q3⟩ := setMany_spec hm
      have hlen := concL_length hx
      have q2 := q2 (by simp)
      obtain ⟨w', hw, W⟩ := run_storeCells (P := P) e.blk (e.off + off) xs 0 w (concL_one (by simpa using hone) hx) (fun j hj => by
        have : (cs[off + j]?).isSome = true := by simp; omega
        obtain ⟨u, hu⟩ := Option.isSome_iff_exists.1 this
        obtain ⟨x, z1, _, z3⟩ := r5.cell _ _ hu
        have e1 : e.off + off + (0 + j) = e.off + (off + j) := by omega
        rw [e1, z1, z3]; simp)
      refine ⟨w', hw, ?_, by rw [← hS]; exact r2⟩
      exact r1.wrote he r5 r6 r8 ⟨t, ht, hS.symm⟩ hm hx W
end
end Go.Sx
