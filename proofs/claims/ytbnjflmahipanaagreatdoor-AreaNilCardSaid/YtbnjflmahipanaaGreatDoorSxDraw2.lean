/- Regions whose order is drawn: blocks put by and taken up. -/
import Derived.Test.YtbnjflmahipanaaGreatDoorSxDraw1
namespace Go.Sx
set_option linter.unusedSimpArgs false
set_option linter.unusedVariables false

section
variable {P : Program} {ρ : Env} {K K' : Kp} {S S' : St} {w : World} {σ : Sig}

def Kp.Same (K K' : Kp) : Prop := K'.os = K.os ∧ K'.tape = K.tape ∧ K'.output = K.output

theorem Kp.Same.trans {K K' K'' : Kp} (h : K.Same K') (h' : K'.Same K'') : K.Same K'' := ⟨h'.1.trans h.1, h'.2.1.trans h.2.1, h'.2.2.trans h.2.2⟩

theorem Rel.less (h : Rel ρ K' S w σ) (hk : ∀ r ob, K r = some ob → K' r = some ob) (hs : K.Same K') (hg : GlobK ρ K) : Rel ρ K S w σ :=
  ⟨h.low, h.obj, h.sep, fun r ob hr => h.keep r ob (hk r ob hr), fun b o e r hb he hr => by
    obtain ⟨ob, hob⟩ := Option.isSome_iff_exists.1 hr
    exact h.apart b o e r hb he (by rw [hk r ob hob]; rfl), ⟨h.rest.1.trans hs.1, h.rest.2.1.trans hs.2.1, h.rest.2.2.trans hs.2.2⟩, hg⟩

/-- A new block that is put by. -/
theorem Rel.frameNew (h : Rel ρ K S w σ) {id : Nat} {e : Ent} {ob : Obj} (hid : id < S.next) (hσ : σ id = none) (he : e.blk = w.heap.size) :
    Rel ρ { K with blk := fun r => if r = w.heap.size then some ob else K r } S (w.alloc ob) (σ.put id e) ∧ σ.le (σ.put id e) := by
  have hle : σ.le (σ.put id e) := fun b e' hb => by
    simp only [Sig.put]
    split
    · rename_i hbi; subst hbi; rw [hσ] at hb; cases hb
    · exact hb
  have hne : ∀ {b : Nat} {o : AObj} {e' : Ent}, S.h.get b = some o → (σ.put id e) b = some e' → σ b = some e' := by
    intro b o e' hb hs
    obtain ⟨e0, h1, _⟩ := h.obj b o hb
    have := hle _ _ h1
    rw [hs] at this
    simp only [Option.some.injEq] at this
    rw [h1, this]
  have hold : ∀ r, r < w.heap.size → (w.alloc ob).heap[r]? = w.heap[r]? := fun r hr => by
    simp only [World.alloc, Array.getElem?_push]
    rw [if_neg (by omega)]
  refine ⟨⟨fun b e' hb => ?_, fun b o hb => ?_, fun b b' o o' e1 e2 g1 g2 s1 s2 => h.sep b b' o o' e1 e2 g1 g2 (hne g1 s1) (hne g2 s2), fun r ob' hr => ?_, fun b o e' r hb hs hr => ?_, h.rest, fun g cs hg => ?_⟩, hle⟩
  · simp only [World.size_alloc]
    simp only [Sig.put] at hb
    split at hb
    · rename_i hbi
      subst hbi
      simp only [Option.some.injEq] at hb
      subst hb
      exact ⟨hid, by omega⟩
    · have := h.low b e' hb; exact ⟨this.1, by omega⟩
  · obtain ⟨e', h1, h2⟩ := h.obj b o hb
    exact ⟨e', hle _ _ h1, (h2.mono hle).world (hold _ (h.low b e' h1).2)⟩
  · dsimp only at hr
    split at hr
    · rename_i hrs
      simp only [Option.some.injEq] at hr
      subst hr; subst hrs
      exact heap_new w ob
    · have hk := h.keep r ob' hr
      rw [hold r (Array.getElem?_eq_some_iff.1 hk).1]
      exact hk
  · have hs' := hne hb hs
    dsimp only at hr
    split at hr
    · rename_i hrs
      have := (h.low b e' hs').2
      omega
    · exact h.apart b o e' r hb hs' hr
  · obtain ⟨a, t, fr, h1, h2⟩ := h.glob g cs hg
    have hlt := (Array.getElem?_eq_some_iff.1 (h.keep g _ h1)).1
    refine ⟨a, t, fr, ?_, h2⟩
    dsimp only
    rw [if_neg (by omega)]
    exact h1

/-- A block that was put by is taken up. -/
theorem Rel.commit1 (h : Rel ρ K S w σ) {id : Nat} {e : Ent} {o : AObj} {t : Tr AObj} (hS : S.h.set id o = some t) (he : σ id = some e) (hK : (K e.blk).isSome) (ho : ObjRel ρ σ w e o) (hgl : ∀ g cs, ρ.G g = some cs → e.blk ≠ g) :
    Rel ρ { K with blk := fun r => if r = e.blk then none else K r } ⟨t, S.next⟩ w σ := by
  have hg := Tr.get_set S.h id o t hS
  refine ⟨h.low, fun b o' hb => ?_, fun b b' o1 o2 e1 e2 g1 g2 s1 s2 hb => ?_, fun r ob hr => ?_, fun b o' e' r hb hs hr => ?_, h.rest, fun g cs hg => ?_⟩
  · simp only [hg] at hb
    split at hb
    · rename_i hbi
      subst hbi
      simp only [Option.some.injEq] at hb
      subst hb
      exact ⟨e, he, ho⟩
    · exact h.obj b o' hb
  · simp only [hg] at g1 g2
    split at g1 <;> split at g2
    · left; omega
    · rename_i hb1 hb2
      subst hb1
      rw [he] at s1
      simp only [Option.some.injEq] at s1
      subst s1
      exact absurd hb.symm (h.apart b' o2 e2 e.blk g2 s2 hK)
    · rename_i hb1 hb2
      subst hb2
      rw [he] at s2
      simp only [Option.some.injEq] at s2
      subst s2
      exact absurd hb (h.apart b o1 e1 e.blk g1 s1 hK)
    · exact h.sep b b' o1 o2 e1 e2 g1 g2 s1 s2 hb
  · dsimp only at hr
    split at hr
    · cases hr
    · exact h.keep r ob hr
  · dsimp only at hr
    split at hr
    · cases hr
    · rename_i hre
      simp only [hg] at hb
      split at hb
      · rename_i hbi
        subst hbi
        rw [he] at hs
        simp only [Option.some.injEq] at hs
        subst hs
        exact fun hh => hre hh.symm
      · exact h.apart b o' e' r hb hs hr
  · obtain ⟨a, t', fr, h1, h2⟩ := h.glob g cs hg
    refine ⟨a, t', fr, ?_, h2⟩
    dsimp only
    rw [if_neg (Ne.symm (hgl g cs hg))]
    exact h1

theorem commit_rel {base n : Nat} (hd : ∀ j j' e e', j < n → j' < n → σ (base + j) = some e → σ (base + j') = some e' → e.blk = e'.blk → j = j') : ∀ {l : List (Nat × AObj)} {S S' : St} {K : Kp}, commit base l S = some S' → Rel ρ K S w σ →
    (∀ p ∈ l, p.1 < n ∧ ∃ e, σ (base + p.1) = some e ∧ (K e.blk).isSome ∧ ObjRel ρ σ w e p.2 ∧ ∀ g cs, ρ.G g = some cs → e.blk ≠ g) → l.Pairwise (fun p q => p.1 ≠ q.1) →
    ∃ K' : Kp, Rel ρ K' S' w σ ∧ S'.next = S.next ∧ (∀ r, (∀ p ∈ l, ∀ e, σ (base + p.1) = some e → e.blk ≠ r) → K' r = K r) ∧ K.Same K'
  | [], S, S', K, h, hR, _, _ => by
    simp only [commit, Option.some.injEq] at h
    subst h
    exact ⟨K, hR, rfl, fun _ _ => rfl, rfl, rfl, rfl⟩
  | (i, o) :: l, S, S', K, h, hR, hp, hw => by
    simp only [commit, Option.bind_eq_some_iff] at h
    obtain ⟨t, ht, h⟩ := h
    obtain ⟨hi, e, he, hK, ho, hgl⟩ := hp (i, o) (by simp)
    dsimp only at he ho hi
    have h1 := hR.commit1 ht he hK ho hgl
    obtain ⟨hw1, hw2⟩ := List.pairwise_cons.1 hw
    obtain ⟨K', q1, q2, q3, q4⟩ := commit_rel hd h h1 (fun p hpl => by
      obtain ⟨hi', e', he', hK', ho'⟩ := hp p (by simp [hpl])
      refine ⟨hi', e', he', ?_, ho'⟩
      dsimp only
      rw [if_neg]
      · exact hK'
      · intro hbe
        exact hw1 p hpl (hd _ _ _ _ hi hi' he he' hbe.symm)) hw2
    refine ⟨K', q1, q2, fun r hr => ?_, q4⟩
    rw [q3 r fun p hpl => hr p (by simp [hpl])]
    dsimp only
    rw [if_neg fun hre => hr (i, o) (by simp) e he hre.symm]

variable {xt : FuncId → Option Xt} {cal : Cal} {nt base : Nat} {ops : Array Oper} {T0 : Tr AV} {S0 : St}

theorem Ok.index {rs : List Rec} : ∀ {T : Tr AV} {S : St}, Ok P xt cal nt base ops T0 S0 rs T S → ∀ p ∈ rs, p.i < rs.length := by
  induction rs with
  | nil => intro T S _ p hp; simp at hp
  | cons q rs ih =>
    rintro T S ⟨Sp, g1, g2, _⟩ p hp
    rcases List.mem_cons.1 hp with rfl | hp
    · rw [g2]; simp
    · have := ih g1 p hp; simp; omega

theorem Ok.mask_lt {rs : List Rec} : ∀ {T : Tr AV} {S : St}, Ok P xt cal nt base ops T0 S0 rs T S → ∀ p ∈ rs, ∀ j, p.m.testBit j = true → j < p.i := by
  induction rs with
  | nil => intro T S _ p hp; simp at hp
  | cons q rs ih =>
    rintro T S ⟨Sp, g1, g2, _, ⟨g3, g4⟩, _⟩ p hp j hj
    rcases List.mem_cons.1 hp with rfl | hp
    · obtain ⟨e, he, hb, h⟩ := g4 j hj
      have hidx := g1.index
      rcases h with rfl | ⟨p', hp', h1, h2⟩
      · obtain ⟨p', hp', h1⟩ := g3 e he hb
        have := hidx p' hp'
        omega
      · have h3 := ih g1 p' hp' j h2
        have := hidx p' hp'
        omega
    · exact ih g1 p hp j hj

theorem Ok.pend {rs : List Rec} : ∀ {T : Tr AV} {S : St}, Ok P xt cal nt base ops T0 S0 rs T S →
    (∀ p ∈ dpend rs, ∃ q ∈ rs, q.i = p.1 ∧ q.k = .alloc p.2 ∧ ∀ h ∈ rs, h.k.isHeavy = true → h.m.testBit q.i = false) ∧ (dpend rs).Pairwise (fun p q => p.1 ≠ q.1) := by
  induction rs with
  | nil => intro T S _; exact ⟨fun p hp => by simp [dpend] at hp, .nil⟩
  | cons r rs ih =>
    rintro T S hok
    have hml := hok.mask_lt
    obtain ⟨Sp, g1, g2, _⟩ := hok
    obtain ⟨h1, h2⟩ := ih g1
    have hidx := g1.index
    simp only [dpend]
    split
    · rename_i ob hk
      refine ⟨fun p hp => ?_, List.pairwise_cons.2 ⟨fun p hp => ?_, h2⟩⟩
      · rcases List.mem_cons.1 hp with rfl | hp
        · refine ⟨r, by simp, rfl, hk, fun h hh hhv => ?_⟩
          rcases List.mem_cons.1 hh with rfl | hh
          · rw [hk] at hhv; cases hhv
          · cases hb : h.m.testBit r.i with
            | false => rfl
            | true =>
              have := hml h (by simp [hh]) _ hb
              have := hidx h hh
              omega
        · obtain ⟨q, q1, q2, q3, q4⟩ := h1 p hp
          refine ⟨q, by simp [q1], q2, q3, fun h hh hhv => ?_⟩
          rcases List.mem_cons.1 hh with rfl | hh
          · rw [hk] at hhv; cases hhv
          · exact q4 h hh hhv
      · obtain ⟨q, q1, q2, q3, q4⟩ := h1 p hp
        have := hidx q q1
        dsimp only
        omega
    · rename_i Sc S' hk
      refine ⟨fun p hp => ?_, h2.filter _⟩
      rw [List.mem_filter] at hp
      obtain ⟨q, q1, q2, q3, q4⟩ := h1 p hp.1
      refine ⟨q, by simp [q1], q2, q3, fun h hh hhv => ?_⟩
      rcases List.mem_cons.1 hh with rfl | hh
      · rw [q2]; simpa using hp.2
      · exact q4 h hh hhv
    · rename_i hk1 hk2
      refine ⟨fun p hp => ?_, h2⟩
      obtain ⟨q, q1, q2, q3, q4⟩ := h1 p hp
      refine ⟨q, by simp [q1], q2, q3, fun h hh hhv => ?_⟩
      rcases List.mem_cons.1 hh with rfl | hh
      · cases hk : h.k <;> simp [hk, RK.isHeavy] at hhv
        exact absurd hk (hk2 _ _)
      · exact q4 h hh hhv

theorem lookB_mem {t : Nat} : ∀ {l : List Operand}, lookB t l = true → Operand.tmp t ∈ l
  | [], h => by cases h
  | .tmp u :: l, h => by
    simp only [lookB, Bool.or_eq_true] at h
    rcases h with h | h
    · rw [Nat.eq_of_beq_eq_true h]; simp
    · exact List.mem_cons_of_mem _ (lookB_mem h)
  | .const _ :: l, h => List.mem_cons_of_mem _ (lookB_mem (by simpa [lookB] using h))
  | .global _ :: l, h => List.mem_cons_of_mem _ (lookB_mem (by simpa [lookB] using h))
  | .func _ :: l, h => List.mem_cons_of_mem _ (lookB_mem (by simpa [lookB] using h))

theorem looks_of_lookB {ops : Array Oper} {o : Oper} {t : Nat} (h : lookB t o.op.operands.toList = true) : t ∈ o.looksAt ops :=
  List.mem_append_left _ (List.mem_filterMap.2 ⟨.tmp t, lookB_mem h, rfl⟩)

theorem looks_of_guard {ops : Array Oper} {o : Oper} {j : Nat} {want : Bool} {t : Nat} (hg : o.guard = some (j, want)) (hd : (ops[j]?).bind (·.dst) = some t) : t ∈ o.looksAt ops := by
  refine List.mem_append_right _ ?_
  simp [hg, hd]

end
end Go.Sx
