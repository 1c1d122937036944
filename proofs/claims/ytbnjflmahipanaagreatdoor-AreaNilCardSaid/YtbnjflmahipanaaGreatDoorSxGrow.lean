/- append. -/
import Derived.Test.YtbnjflmahipanaaGreatDoorSxMaps
namespace Go.Sx
set_option linter.unusedSimpArgs false
set_option linter.unusedVariables false

section
variable {P : Program} {ρ : Env} {σ : Sig} {w : World} {K : Kp} {S S' : St}

theorem run_lenOf {x : AV} {cx : Value} {n : Nat} (h : lenOf x = some n) (hx : conc ρ σ x = some cx) (w : World) : (Builtin.lenOf cx).run P w = .ok n w := by
  unfold lenOf at h
  split at h
  · simp only [Option.some.injEq] at h; subst h; rw [inv_nils hx]; rfl
  · simp only [Option.some.injEq] at h; subst h; obtain ⟨_, _, rfl⟩ := inv_slice hx; rfl
  · simp only [Option.some.injEq] at h; subst h; obtain ⟨_, _, _, _, rfl⟩ := inv_gslice hx; rfl
  · simp only [Option.some.injEq] at h; subst h; obtain ⟨rfl, _⟩ := inv_str hx; simp [Builtin.lenOf, bytesOf_size]
  · cases h

theorem run_srcCells {x : AV} {cx : Value} {sz n : Nat} {cs : List AV} (hR : Rel ρ K S w σ) (h : srcCells S sz n x = some cs) (hx : conc ρ σ x = some cx) :
    ∃ ys, (Builtin.firstCells sz n cx).run P w = .ok ys.toArray w ∧ concL ρ σ cs = some ys ∧ ys.length = n * sz := by
  unfold srcCells at h
  split at h
  · split at h
    · rename_i hn
      have hn := Nat.eq_of_beq_eq_true hn
      subst hn
      simp only [Option.some.injEq] at h; subst h
      exact ⟨[], by rw [inv_nils hx]; rfl, rfl, by simp⟩
    · cases h
  · rename_i b off len cap
    simp only [Option.bind_eq_some_iff] at h
    obtain ⟨o, ho, h⟩ := h
    split at h
    · obtain ⟨e, h1, rfl⟩ := inv_slice hx
      obtain ⟨e', h2, h3⟩ := hR.obj b _ ho
      rw [h1] at h2
      simp only [Option.some.injEq] at h2
      subst h2
      obtain ⟨ys, h4, h5, h6⟩ := CellsRel.many h3 h
      exact ⟨ys, by simp only [Builtin.firstCells]; exact run_loadCells e.blk (e.off + off) (n * sz) ys h5 h6, h4, h5⟩
    · cases h
  · rename_i b skip len esz
    split at h
    · rename_i hes
      have hes := Nat.eq_of_beq_eq_true hes
      subst hes
      simp only [Option.bind_eq_some_iff] at h
      obtain ⟨o, ho, h⟩ := h
      split at h
      · obtain ⟨e, h1, _, _, rfl⟩ := inv_gslice hx
        obtain ⟨e', h2, h3⟩ := hR.obj b _ ho
        rw [h1] at h2
        simp only [Option.some.injEq] at h2
        subst h2
        obtain ⟨ys, h4, h5, h6⟩ := CellsRel.many h3 h
        exact ⟨ys, by simp only [Builtin.firstCells]; exact run_loadCells e.blk (e.off + skip * _) (n * _) ys h5 h6, h4, h5⟩
      · cases h
    · cases h
  · rename_i s
    split at h
    · rename_i hc
      simp only [Bool.and_eq_true, Nat.ble_eq] at hc
      obtain ⟨c1, c2⟩ := hc
      have c2 := Nat.eq_of_beq_eq_true c2
      subst c2
      simp only [Option.some.injEq] at h; subst h
      obtain ⟨rfl, hs⟩ := inv_str hx
      refine ⟨((s.take n).map Int.ofNat).map (Value.int .u8), ?_, concL_ints _, by simp; omega⟩
      simp only [Builtin.firstCells, bytesOf_extract, List.drop_zero, Sem.run_pure]
      congr 1
      apply Array.ext'
      simp only [bytesOf, Array.toList_map, List.map_map]
      apply List.map_congr_left
      intro c hc
      have := hs c (List.mem_of_mem_take hc)
      simp; omega
    · cases h
  · cases h

theorem growBy_le (newLen : Nat) : ∀ (r c : Nat), Builtin.growBy newLen r c ≤ 2 ^ r * c + 2 ^ r * 768
  | 0, c => by simp [Builtin.growBy]
  | r + 1, c => by
    unfold Builtin.growBy
    split
    · have : c ≤ 2 ^ (r + 1) * c := Nat.le_mul_of_pos_left c (Nat.two_pow_pos _)
      omega
    · refine Nat.le_trans (growBy_le newLen r _) ?_
      have h1 : c + (c + 768) / 4 ≤ 2 * c + 192 := by omega
      have h2 : 2 ^ r * (c + (c + 768) / 4) ≤ 2 ^ r * (2 * c + 192) := Nat.mul_le_mul_left _ h1
      have h3 : 2 ^ r * (2 * c + 192) = 2 ^ (r + 1) * c + 2 ^ r * 192 := by rw [Nat.mul_add, Nat.pow_succ]; simp [Nat.mul_assoc, Nat.mul_comm]
      have h4 : 2 ^ (r + 1) * 768 = 2 ^ r * 1536 := by rw [Nat.pow_succ]; simp [Nat.mul_assoc]
      have h5 : 2 ^ r * 192 + 2 ^ r * 768 ≤ 2 ^ r * 1536 := by rw [← Nat.mul_add]; exact Nat.mul_le_mul_left _ (by omega)
      omega

theorem nextcap_small {need cap : Nat} (h : need ≤ 131072) (hc : cap < need) : Builtin.nextslicecap need cap ≤ 4194304 := by
  unfold Builtin.nextslicecap
  split
  · omega
  · split
    · omega
    · have := growBy_le need 4 cap
      omega

/-- An append that makes a new row. -/
theorem run_append_new (ρ : Env) (σ : Sig) {argTypes : Array TypeId} {type st xt e : TypeId} {xu : TypeDesc} {sz n sLen sCap : Nat} {base : Option Addr} {inf : TypeInfo} {z : AV} {cx : Value} {old new : List Value}
    (h0 : argTypes[0]? = some st) (h1 : P.underlying st = some (.slice e)) (h2 : argTypes[1]? = some xt) (h3 : P.underlying xt = some xu) (h4 : ∀ k, xu ≠ .int k) (hsz : tsize P e = some sz)
    (hi : P.info? e = some inf) (hb : inf.bytes ≤ 65536) (hb1 : 1 ≤ inf.bytes) (hz : zeroOf P e = some z) (hzl : z.cellsOf.length = sz)
    (hn : (Builtin.lenOf cx).run P w = .ok n w) (hsmall : sLen + n ≤ 131072) (hneed : ¬ sLen + n ≤ sCap)
    (hdrew1 : (Builtin.firstCells sz sLen (.slice base sLen sCap)).run P w.drew = .ok old.toArray w.drew) (hdrew2 : (Builtin.firstCells sz n cx).run P w.drew = .ok new.toArray w.drew) :
    ∃ (rest : List Value) (newCap : Nat), sLen + n ≤ newCap ∧ rest.length = (newCap - (sLen + n)) * sz ∧
      (Builtin.append_ argTypes type #[.slice base sLen sCap, cx]).run P w = .ok (.slice (some ⟨w.heap.size, 0, none⟩) (sLen + n) newCap) (w.drew.alloc (.cells (old ++ new ++ rest).toArray e)) := by
  obtain ⟨x, hx, cx0⟩ := run_zeroValue (ρ := ρ) (σ := σ) hz w.drew
  obtain ⟨ys, hy1, hy2⟩ := cells_toList cx0
  have hyl := concL_length hy1
  let q : Question := .appendCap (sLen + n) sCap e
  let newCap := q.cut (w.tape w.drawn q)
  have hcap : sLen + n ≤ newCap := Nat.le_add_right _ _
  let rest := (Builtin.zeroCells x.cells (newCap - (sLen + n))).toList
  refine ⟨rest, newCap, hcap, ?_, ?_⟩
  · simp only [rest, Builtin.zeroCells, hy2]
    simp
    rw [hyl, hzl]
  · have hnz : ∀ b, (match xu with | .int _ => true | _ => b) = b := fun b => by cases xu <;> first | rfl | exact absurd rfl (h4 _)
    have hz0 : (decide (xu matches .int _)) = false := by cases xu <;> first | rfl | exact absurd rfl (h4 _)
    have hti : ∀ w, (typeInfo e).run P w = .ok inf w := fun w => by simp [typeInfo, hi]
    have hnc : ¬ (Builtin.nextslicecap (sLen + n) sCap * inf.bytes > 2 ^ 48) := by
      have h5 := nextcap_small (cap := sCap) hsmall (by omega)
      have h6 : Builtin.nextslicecap (sLen + n) sCap * inf.bytes ≤ 4194304 * 65536 := Nat.mul_le_mul h5 hb
      omega
    have hb0 : ¬ inf.bytes = 0 := by clear_value newCap rest; clear hnc; omega
    simp only [Builtin.append_, h0, h2]
    simp [run_underlying h1, run_underlying h3, run_sizeOf hsz, hn, hneed, hti, hnc, hb0]
    rw [if_neg (by simp [Question.forced])]
    simp only [hdrew1, hdrew2, hx, Result.andThen_ok, newRow, Sem.run_bind, run_newObj, World.alloc_eq, Sem.run_pure, World.size_drew]
    congr 2
    simp [rest, newCap, q]

/-! ### What drawing leaves -/

theorem Rel.drew (h : Rel ρ K S w σ) : Rel ρ K S w.drew σ := h.heap rfl ⟨rfl, rfl, rfl⟩

/-- A row that append has made: the relation behind it. -/
theorem Rel.grown {cs : List AV} {el' : Option TypeId} {kk : Option Nat} {ys rest : List Value} {e : TypeId} {id newCap sz n : Nat} (h : Rel ρ K S w σ) (hS : S.new (.cells cs true kk el') = some (id, S'))
    (hc : concL ρ σ cs = some ys) (hl : ys.length = n * sz) (hr : rest.length = (newCap - n) * sz) (hn : n ≤ newCap) (hel : el' = none ∨ el' = some e) :
    S'.next = S.next + 1 ∧ id = S.next ∧ Rel ρ K S' (w.alloc (.cells (ys ++ rest).toArray e)) (σ.put id ⟨w.heap.size, 0, newCap, sz⟩) ∧ Ext S.next σ (σ.put id ⟨w.heap.size, 0, newCap, sz⟩) ∧
      (∀ m, m ≤ newCap → conc ρ (σ.put id ⟨w.heap.size, 0, newCap, sz⟩) (.gslice id 0 m sz) = some (.slice (some ⟨w.heap.size, 0, none⟩) m newCap)) := by
  have hlen := concL_length hc
  have hm : newCap * sz = n * sz + (newCap - n) * sz := by rw [← Nat.add_mul]; congr 1; omega
  obtain ⟨h1, h2, h3, h4⟩ := h.new (e := ⟨w.heap.size, 0, newCap, sz⟩) (ob := .cells (ys ++ rest).toArray e) hS rfl (fun σ' hle => by
    refine ⟨fun i v hi => ?_, fun _ i hi => ?_, fun t ht => ?_⟩
    · have q1 := concL_get hc i
      rw [hi] at q1
      simp at q1
      have hlt := (List.getElem?_eq_some_iff.1 hi).1
      refine ⟨ys[i]'(by omega), ?_, ?_, by simp⟩
      · simp only [Nat.zero_add, World.cell?_alloc_new]
        rw [List.getElem?_toArray, List.getElem?_append_left (by omega), List.getElem?_eq_getElem (by omega)]
      · refine conc_mono hle _ _ ?_
        rw [q1, List.getElem?_eq_getElem (by omega)]
    · refine ⟨?_, by simp⟩
      simp only [Nat.zero_add, World.cell?_alloc_new]
      have : ((ys ++ rest)[i]?).isSome := by
        simp at hi ⊢
        omega
      obtain ⟨x, hx⟩ := Option.isSome_iff_exists.1 this
      exact ⟨x, by rw [List.getElem?_toArray]; exact hx⟩
    · rcases hel with rfl | rfl
      · cases ht
      · simp only [Option.some.injEq] at ht; subst ht
        refine ⟨(ys ++ rest).length, ?_, (fun h => by cases h), by simp⟩
        unfold World.shape?
        simp only [heap_new]
        simp)
  refine ⟨h2, h1, h3, h4, fun m hm => ?_⟩
  simp [conc, Sig.put, hm]

end
end Go.Sx
