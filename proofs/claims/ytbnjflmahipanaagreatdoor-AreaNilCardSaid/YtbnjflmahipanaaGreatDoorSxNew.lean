/- Operations that make one block. -/
import Derived.Test.YtbnjflmahipanaaGreatDoorSxRead
namespace Go.Sx
set_option linter.unusedSimpArgs false
set_option linter.unusedVariables false

section
variable {P : Program} {ρ : Env} {σ : Sig} {w : World}

theorem heap_new (w : World) (o : Obj) : (w.alloc o).heap[w.heap.size]? = some o := by
  unfold World.alloc
  simp only [Array.getElem?_push_size]

theorem newCells {σ' : Sig} {cs : List AV} {ys : List Value} (t : TypeId) (hc : concL ρ σ cs = some ys) (hle : σ.le σ') : CellsRel ρ σ' (w.alloc (.cells ys.toArray t)) ⟨w.heap.size, 0, 0, 0⟩ cs false (some t) := by
  have hlen := concL_length hc
  refine ⟨fun i v hi => ?_, (fun h => by cases h), fun u hu => ?_⟩
  · have h1 := concL_get hc i
    rw [hi] at h1
    simp at h1
    have hlt := (List.getElem?_eq_some_iff.1 hi).1
    refine ⟨ys[i]'(by omega), ?_, ?_, ?_⟩
    · simp
    · refine conc_mono hle _ _ ?_
      rw [h1, List.getElem?_eq_getElem (by omega)]
    · simp
  · simp only [Option.some.injEq] at hu
    subst hu
    refine ⟨ys.length, ?_, fun _ => ⟨rfl, hlen⟩, by simp⟩
    unfold World.shape?
    rw [heap_new]
    simp

theorem repeated_get {α : Type} (z : List α) (hz : z ≠ []) : ∀ (n i : Nat), (repeated z n)[i]? = if i < n * z.length then z[i % z.length]? else none
  | 0, i => by simp [repeated]
  | n + 1, i => by
    have hpos : 0 < z.length := List.length_pos_iff.2 hz
    simp only [repeated]
    by_cases h : i < z.length
    · rw [List.getElem?_append_left h, if_pos (by rw [Nat.add_mul]; omega), Nat.mod_eq_of_lt h]
    · rw [List.getElem?_append_right (by omega), repeated_get z hz n]
      have e : (i - z.length) % z.length = i % z.length := by
        conv => rhs; rw [show i = (i - z.length) + z.length by omega]
        simp
      rw [e]
      by_cases h2 : i - z.length < n * z.length
      · rw [if_pos h2, if_pos (by rw [Nat.add_mul]; omega)]
      · rw [if_neg h2, if_neg (by rw [Nat.add_mul]; omega)]

theorem range_repeated (z : List Value) (hz : z ≠ []) (n : Nat) : (Array.range (n * z.length)).map (fun i => z.toArray[i % z.toArray.size]!) = (repeated z n).toArray := by
  have hpos : 0 < z.length := List.length_pos_iff.2 hz
  apply Array.ext'
  simp only [Array.toList_map, Array.toList_range]
  apply List.ext_getElem?
  intro i
  rw [repeated_get z hz]
  simp only [List.getElem?_map, List.size_toArray]
  by_cases h : i < n * z.length
  · rw [if_pos h, List.getElem?_range h]
    have hm := Nat.mod_lt i hpos
    simp [hm]
  · rw [if_neg h, List.getElem?_eq_none (by simp; omega)]
    rfl

theorem concL_repeated {z : List AV} {xs : List Value} (h : concL ρ σ z = some xs) : ∀ n, concL ρ σ (repeated z n) = some (repeated xs n)
  | 0 => rfl
  | n + 1 => concL_append h (concL_repeated h n)

/-- The cells of n zero values of a type. -/
theorem run_zeros {e : TypeId} {sz n : Nat} {z : List AV} (hz : (if Nat.beq (n * sz) 0 then some [] else (zeroOf P e).bind fun z => if Nat.beq z.cellsOf.length sz then some (repeated z.cellsOf n) else none) = some z) (w : World) :
    ∃ xs zs, (if n * sz = 0 then pure #[] else (do pure (← zeroValue e).cells) : Sem (Array Value)).run P w = .ok zs w ∧ concL ρ σ z = some xs ∧ (Array.range (n * sz)).map (fun i => zs[i % zs.size]!) = xs.toArray := by
  split at hz
  · rename_i h0
    have h0 := Nat.eq_of_beq_eq_true h0
    simp only [Option.some.injEq] at hz; subst hz
    refine ⟨[], #[], by simp [h0], rfl, by simp [h0]⟩
  · rename_i h0
    have h0 : ¬ n * sz = 0 := fun h => h0 (by rw [h]; rfl)
    simp only [Option.bind_eq_some_iff] at hz
    obtain ⟨zv, hzv, hz⟩ := hz
    split at hz
    · rename_i hl
      have hl := Nat.eq_of_beq_eq_true hl
      simp only [Option.some.injEq] at hz; subst hz
      obtain ⟨x, hx, cx⟩ := run_zeroValue (ρ := ρ) (σ := σ) hzv w
      obtain ⟨ys, h1, h2⟩ := cells_toList cx
      have hlen := concL_length h1
      have hys : ys ≠ [] := by
        rintro rfl
        simp at hlen
        rw [← hl, ← hlen] at h0
        simp at h0
      refine ⟨repeated ys n, ys.toArray, ?_, concL_repeated h1 n, ?_⟩
      · rw [if_neg h0]
        simp [hx, h2]
      · have := range_repeated ys hys n
        rw [← hl, ← hlen]; exact this
    · cases hz

theorem allIs_eq {n : Nat} : ∀ {l : List AV}, allIs n l = true → ∀ v ∈ l, v = .int .i64 (.ofNat n)
  | [], _, v, hv => by simp at hv
  | x :: l, h, v, hv => by
    unfold allIs at h
    split at h
    · rename_i heq; cases heq
    · rename_i m l' heq
      simp only [List.cons.injEq] at heq
      obtain ⟨rfl, rfl⟩ := heq
      simp only [Bool.and_eq_true] at h
      rcases List.mem_cons.1 hv with rfl | hv
      · rw [Nat.eq_of_beq_eq_true h.1]
      · exact allIs_eq h.2 v hv
    · cases h

theorem allIs32_eq {n : Nat} : ∀ {l : List AV}, allIs32 n l = true → ∀ v ∈ l, v = .int .i32 (.ofNat n)
  | [], _, v, hv => by simp at hv
  | x :: l, h, v, hv => by
    unfold allIs32 at h
    split at h
    · rename_i heq; cases heq
    · rename_i m l' heq
      simp only [List.cons.injEq] at heq
      obtain ⟨rfl, rfl⟩ := heq
      simp only [Bool.and_eq_true] at h
      rcases List.mem_cons.1 hv with rfl | hv
      · rw [Nat.eq_of_beq_eq_true h.1]
      · exact allIs32_eq h.2 v hv
    · cases h

theorem newBig {σ' : Sig} {cs : List AV} {ys : List Value} (t : TypeId) (hc : concL ρ σ cs = some ys) (hle : σ.le σ') : ObjRel ρ σ' (w.alloc (.cells ys.toArray t)) ⟨w.heap.size, 0, 0, 0⟩ (bigObj cs t) := by
  have h := newCells (w := w) t hc hle
  have arr : ∀ (z : AV) (l : List AV), cs = z :: l → (∀ v ∈ l, v = z) → ObjRel ρ σ' (w.alloc (.cells ys.toArray t)) ⟨w.heap.size, 0, 0, 0⟩ (.arr .nil (l.length + 1) z) := by
    intro z l hcs hall i hi
    refine h.cell i _ ?_
    rw [hcs]
    have hz : arrAt .nil z i = z := by simp [arrAt, Tr.get]
    rw [hz]
    cases i with
    | zero => rfl
    | succ i =>
      rw [List.getElem?_cons_succ, List.getElem?_eq_getElem (by omega)]
      rw [hall _ (List.getElem_mem (by omega))]
  unfold bigObj
  split
  · rename_i m l
    split
    · rename_i hb
      simp only [Bool.and_eq_true] at hb
      exact arr _ l rfl (allIs32_eq hb.2)
    · exact h
  · rename_i m l
    split
    · rename_i hb
      simp only [Bool.and_eq_true] at hb
      exact arr _ l rfl (allIs_eq hb.2)
    · exact h
  · exact h

theorem bigObj_kin (cs : List AV) (t : TypeId) : (bigObj cs t).kin = none := by
  unfold bigObj
  split
  · split <;> rfl
  · split <;> rfl
  · rfl

/-- What a new block must be, and its value, in any world that has one. -/
theorem run_aalloc {ev : Operand → Option AV} {ev' : Operand → Value} {id : Nat} {o : Oper} {v : AV} {ob : AObj} (he : ER ρ σ ev ev') (h : aalloc P ev id o = some (v, ob)) (w : World) :
    ∃ z c, (execOp ev' o).run P w = .ok (.value z) (w.alloc c) ∧ ob.kin = none ∧
      ∀ σ' : Sig, σ.le σ' → ObjRel ρ σ' (w.alloc c) ⟨w.heap.size, 0, 0, 0⟩ ob ∧ (σ' id = some ⟨w.heap.size, 0, 0, 0⟩ → conc ρ σ' v = some z) := by
  obtain ⟨dst, op, type, pos, after, guard⟩ := o
  cases op <;> simp only [aalloc] at h <;> try (cases h; done)
  case alloc t =>
    simp only [Option.bind_eq_some_iff, Option.some.injEq, Prod.mk.injEq] at h
    obtain ⟨z, hz, rfl, rfl⟩ := h
    obtain ⟨x, hx, cx⟩ := run_zeroValue (ρ := ρ) (σ := σ) hz w
    obtain ⟨ys, h1, h2⟩ := cells_toList cx
    refine ⟨.pointer (some ⟨w.heap.size, 0, none⟩), .cells ys.toArray t, ?_, bigObj_kin _ _, fun σ' hle => ⟨newBig t h1 hle, fun hid => by simp [conc, hid]⟩⟩
    simp [execOp, Instr.alloc, hx, newVar, newRow, h2]
  case box t x =>
    simp only [Option.bind_eq_some_iff, Option.some.injEq, Prod.mk.injEq] at h
    obtain ⟨z, hz, rfl, rfl⟩ := h
    obtain ⟨ys, h1, h2⟩ := cells_toList (he _ _ hz)
    refine ⟨.pointer (some ⟨w.heap.size, 0, none⟩), .cells ys.toArray t, ?_, rfl, fun σ' hle => ⟨newCells t h1 hle, fun hid => by simp [conc, hid]⟩⟩
    simp [execOp, Instr.box, newVar, newRow, h2]
  case buildSlice t len parts =>
    simp only [Option.bind_eq_some_iff] at h
    obtain ⟨u, hu, h⟩ := h
    split at h
    · rename_i e
      simp only [Option.bind_eq_some_iff] at h
      obtain ⟨sz, hsz, ps, hps, z, hz, h⟩ := h
      split at h
      · rename_i hsmall
        have hsmall : len * sz ≤ 65536 := by simpa using hsmall
        simp only [Option.bind_eq_some_iff, Option.some.injEq, Prod.mk.injEq] at h
        obtain ⟨cs, hcs, rfl, rfl⟩ := h
        obtain ⟨xs, zs, h1, h2, h3⟩ := run_zeros (ρ := ρ) (σ := σ) hz w
        have hpr := evP_rel he hps
        have hpr' : PartsRel ρ σ ps (parts.map fun (i, x) => (i, ev' x)).toList := by simpa using hpr
        obtain ⟨xs', h4, h5⟩ := fill_filled (place' := fun i => some (i * sz, sz)) (fun i p hp => hp) hpr' hcs h2
        refine ⟨.slice (some ⟨w.heap.size, 0, none⟩) len len, .cells xs'.toArray e, ?_, rfl, fun σ' hle => ⟨newCells e h5 hle, fun hid => by simp [conc, hid]⟩⟩
        have hn : ¬ (len * sz > 2 ^ 24) := by omega
        have h1' : (if len * sz = 0 then pure #[] else (do pure (← zeroValue e).cells) : Sem (Array Value)).run P w = .ok zs w := h1
        simp only [execOp, Instr.buildSlice, Sem.run_bind, run_underlying hu, Result.andThen_ok, run_sizeOf hsz, hn, if_false]
        split at h1'
        · rename_i h0
          simp only [Sem.run_pure, Result.ok.injEq] at h1'
          obtain ⟨rfl, _⟩ := h1'
          simp only [h0, if_true, Sem.run_pure, Sem.run_bind, Result.andThen_ok]
          rw [h0] at h3
          simp only [h3, h4, newRow, Sem.run_bind, run_newObj, Sem.run_pure, Result.andThen_ok, World.alloc_eq]
        · rename_i h0
          simp only [h0, if_false]
          cases hzz : (zeroValue e).run P w with
          | halt x w1 => simp only [Sem.run_bind, hzz, Result.andThen_halt] at h1'; cases h1'
          | ok x w1 =>
            simp only [Sem.run_bind, hzz, Result.andThen_ok, Sem.run_pure, Result.ok.injEq] at h1'
            obtain ⟨rfl, rfl⟩ := h1'
            simp only [Sem.run_bind, hzz, Result.andThen_ok, Sem.run_pure, h3, h4, newRow, run_newObj, World.alloc_eq]
      · cases h
    · cases h
  case makeMap t r =>
    simp only [Option.bind_eq_some_iff] at h
    obtain ⟨u, hu, h⟩ := h
    split at h
    · simp only [Option.bind_eq_some_iff, Option.some.injEq, Prod.mk.injEq] at h
      obtain ⟨_, hr, rfl, rfl⟩ := h
      have hob : ∀ σ', ObjRel ρ σ' (w.alloc (.map #[] 0)) ⟨w.heap.size, 0, 0, 0⟩ (.map [] 0) := fun σ' => ⟨#[], heap_new w _, .nil⟩
      refine ⟨.map (some w.heap.size), .map #[] 0, ?_, rfl, fun σ' hle => ⟨hob σ', fun hid => by simp [conc, hid]⟩⟩
      split at hr
      · simp [execOp, Instr.makeMap]
      · simp only [Option.bind_eq_some_iff] at hr
        obtain ⟨a, ha, hr⟩ := hr
        split at hr
        · simp [execOp, Instr.makeMap, run_underlying hu, inv_int (he _ _ ha), asInt, asIntOf]
        · cases hr
    · cases h
  case makeSlice t l c =>
    simp only [Option.bind_eq_some_iff] at h
    obtain ⟨u, hu, h⟩ := h
    split at h
    · rename_i e
      simp only [Option.bind_eq_some_iff] at h
      obtain ⟨sz, hsz, lv, hlv, cv, hcv, h⟩ := h
      split at h
      · rename_i k n k' m
        split at h
        · rename_i hb
          simp only [Bool.and_eq_true, Nat.ble_eq] at hb
          obtain ⟨⟨b1, b2⟩, b3⟩ := hb
          simp only [Option.bind_eq_some_iff, Option.some.injEq, Prod.mk.injEq] at h
          obtain ⟨_, ⟨i, hi, hbytes⟩, cs, hcs, rfl, rfl⟩ := h
          have hbytes : i.bytes ≤ 65536 := by
            split at hbytes
            · rename_i hb; simpa using hb
            · cases hbytes
          obtain ⟨xs, zs, h1, h2, h3⟩ := run_zeros (ρ := ρ) (σ := σ) hcs w
          refine ⟨.slice (some ⟨w.heap.size, 0, none⟩) n m, .cells xs.toArray e, ?_, rfl, fun σ' hle => ⟨newCells e h2 hle, fun hid => by simp [conc, hid]⟩⟩
          have e1 : IntKind.i64.wrap ((n : Nat) : Int) = n := wrap_i64 _ (by omega) (by omega)
          have e2 : IntKind.i64.wrap ((m : Nat) : Int) = m := wrap_i64 _ (by omega) (by omega)
          have e3 : ¬ ((i.bytes : Int) * (m : Int) > 2 ^ 48) := by
            have : (i.bytes : Int) * (m : Int) ≤ 65536 * 65536 := Int.mul_le_mul (by omega) (by omega) (by omega) (by omega)
            omega
          have hti : (typeInfo e).run P w = .ok i w := by simp [typeInfo, hi]
          have hneg : ∀ q : Nat, decide ((q : Int) < 0) = false := fun q => by simp
          have hle' : decide ((n : Int) > (m : Int)) = false := by simp; omega
          simp only [execOp, inv_int (he _ _ hlv), inv_int (he _ _ hcv), Instr.makeSlice, asInt, asIntOf, Sem.run_bind, run_underlying hu, Result.andThen_ok, Sem.run_pure, hti, Int.ofNat_eq_natCast, e1, e2, e3, hneg, hle',
            decide_false, Bool.or_false, Bool.or_self, Bool.false_eq_true, if_false, run_askRoom, Int.toNat_natCast, run_sizeOf hsz]
          have h1' : (if m * sz = 0 then pure #[] else (do pure (← zeroValue e).cells) : Sem (Array Value)).run P w = .ok zs w := h1
          split at h1'
          · rename_i h0
            simp only [Sem.run_pure, Result.ok.injEq] at h1'
            obtain ⟨rfl, _⟩ := h1'
            simp only [h0, if_true, Sem.run_pure, Sem.run_bind, Result.andThen_ok]
            rw [h0] at h3
            simp only [h3, newRow, Sem.run_bind, run_newObj, Sem.run_pure, Result.andThen_ok, World.alloc_eq]
          · rename_i h0
            simp only [h0, if_false]
            cases hzz : (zeroValue e).run P w with
            | halt x w1 => simp only [Sem.run_bind, hzz, Result.andThen_halt] at h1'; cases h1'
            | ok x w1 =>
              simp only [Sem.run_bind, hzz, Result.andThen_ok, Sem.run_pure, Result.ok.injEq] at h1'
              obtain ⟨rfl, rfl⟩ := h1'
              simp only [Sem.run_bind, hzz, Result.andThen_ok, Sem.run_pure, h3, newRow, run_newObj, World.alloc_eq]
        · cases h
      · cases h
    · cases h

end
end Go.Sx
