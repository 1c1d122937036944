/- Operations that need no memory. -/
import Derived.Test.YtbnjflmahipanaaGreatDoorSxNum
namespace Go.Sx
set_option linter.unusedSimpArgs false
set_option linter.unusedVariables false

section
variable {P : Program} {ρ : Env} {σ : Sig}

def ER (ρ : Env) (σ : Sig) (ev : Operand → Option AV) (ev' : Operand → Value) : Prop := ∀ x v, ev x = some v → conc ρ σ v = some (ev' x)

theorem concL_drop : ∀ {cs : List AV} {xs : List Value}, concL ρ σ cs = some xs → ∀ n, concL ρ σ (cs.drop n) = some (xs.drop n)
  | [], xs, h, n => by simp [concL] at h; subst h; simp [concL]
  | v :: vs, xs, h, 0 => by simpa using h
  | v :: vs, xs, h, n + 1 => by
    simp only [concL, Option.bind_eq_some_iff] at h
    obtain ⟨y, hy, ys, hys, h⟩ := h
    simp at h
    subst h
    simpa using concL_drop hys n

theorem concL_take : ∀ {cs : List AV} {xs : List Value}, concL ρ σ cs = some xs → ∀ n, concL ρ σ (cs.take n) = some (xs.take n)
  | [], xs, h, n => by simp [concL] at h; subst h; simp [concL]
  | v :: vs, xs, h, 0 => by simp [concL]
  | v :: vs, xs, h, n + 1 => by
    simp only [concL, Option.bind_eq_some_iff] at h
    obtain ⟨y, hy, ys, hys, h⟩ := h
    simp at h
    subst h
    simp [concL, hy, concL_take hys n]

theorem getMany_eq {α : Type} {l r : List α} {a n : Nat} (h : getMany l a n = some r) : r = (l.drop a).take n ∧ r.length = n := by
  unfold getMany at h
  simp only at h
  split at h
  · rename_i hl
    simp only [Option.some.injEq] at h
    subst h
    exact ⟨rfl, by simpa using hl⟩
  · cases h

theorem run_part {t : TypeId} {cs : List AV} {xs : List Value} {off : Nat} {v : AV} (h : apart P t cs off = some v) (hx : concL ρ σ cs = some xs) (w : World) :
    ∃ x, (part t xs.toArray off).run P w = .ok x w ∧ conc ρ σ v = some x := by
  unfold apart at h
  simp only [Option.bind_eq_some_iff] at h
  obtain ⟨ag, hag, h⟩ := h
  have h0 := run_isAgg hag w
  cases ag with
  | true =>
    simp only [if_true, Option.bind_eq_some_iff] at h
    obtain ⟨n, hn, l, hl, h⟩ := h
    simp at h
    subst h
    obtain ⟨rfl, hlen⟩ := getMany_eq hl
    have h1 := concL_take (concL_drop hx off) n
    refine ⟨.agg (xs.toArray.extract off (off + n)), by simp [part, h0, run_sizeOf hn], ?_⟩
    simp only [conc, h1]
    simp
  | false =>
    simp at h
    have h1 := concL_get hx off
    rw [h] at h1
    simp at h1
    have : ∃ x, xs[off]? = some x := by
      have hl := concL_length hx
      have := (List.getElem?_eq_some_iff.1 h).1
      exact ⟨xs[off]'(by omega), List.getElem?_eq_getElem (by omega)⟩
    obtain ⟨x, hx'⟩ := this
    refine ⟨x, by simp [part, h0, hx'], by rw [h1, hx']⟩

theorem inv_bool {b : Bool} {x : Value} (h : conc ρ σ (.bool b) = some x) : x = .bool b := by simp only [conc, Option.some.injEq] at h; exact h.symm
theorem inv_int {k : IntKind} {n : Int} {x : Value} (h : conc ρ σ (.int k n) = some x) : x = .int k n := by simp only [conc, Option.some.injEq] at h; exact h.symm
theorem inv_str {s : List Nat} {x : Value} (h : conc ρ σ (.str s) = some x) : x = .string (bytesOf s) ∧ Small s := by
  simp only [conc] at h
  split at h
  · rename_i h1
    simp only [Option.some.injEq] at h
    exact ⟨h.symm, small_of h1⟩
  · cases h
theorem inv_nilp {x : Value} (h : conc ρ σ .nilp = some x) : x = .pointer none := by simp only [conc, Option.some.injEq] at h; exact h.symm
theorem inv_ptr {b off : Nat} {x : Value} (h : conc ρ σ (.ptr b off) = some x) : ∃ e, σ b = some e ∧ x = .pointer (some ⟨e.blk, e.off + off, none⟩) := by
  simp only [conc, Option.bind_eq_some_iff, Option.some.injEq] at h
  obtain ⟨e, he, h⟩ := h
  exact ⟨e, he, h.symm⟩
theorem inv_nils {x : Value} (h : conc ρ σ .nils = some x) : x = .slice none 0 0 := by simp only [conc, Option.some.injEq] at h; exact h.symm
theorem inv_slice {b off len cap : Nat} {x : Value} (h : conc ρ σ (.slice b off len cap) = some x) : ∃ e, σ b = some e ∧ x = .slice (some ⟨e.blk, e.off + off, none⟩) len cap := by
  simp only [conc, Option.bind_eq_some_iff, Option.some.injEq] at h
  obtain ⟨e, he, h⟩ := h
  exact ⟨e, he, h.symm⟩
theorem inv_ops {k lo hi : Nat} {x : Value} (h : conc ρ σ (.ops k lo hi) = some x) : ∃ s, ρ k = .string s ∧ lo ≤ s.size ∧ s.size ≤ hi ∧ x = .string s := by
  simp only [conc] at h
  split at h
  · rename_i s hs
    split at h
    · rename_i hc; simp only [Option.some.injEq] at h; exact ⟨s, hs, hc.1, hc.2, h.symm⟩
    · cases h
  · cases h
theorem inv_opl {k lo hi : Nat} {x : Value} (h : conc ρ σ (.opl k lo hi) = some x) : ∃ s, ρ k = .string s ∧ lo ≤ s.size ∧ s.size ≤ hi ∧ x = .int .i64 (.ofNat s.size) := by
  simp only [conc] at h
  split at h
  · rename_i s hs
    split at h
    · rename_i hc; simp only [Option.some.injEq] at h; exact ⟨s, hs, hc.1, hc.2, h.symm⟩
    · cases h
  · cases h
theorem inv_gptr {g off : Nat} {x : Value} (h : conc ρ σ (.gptr g off) = some x) : x = .pointer (some ⟨g, off, none⟩) := by simpa [conc] using h.symm
theorem inv_yld {b : Nat} {x : Value} (h : conc ρ σ (.yld b) = some x) : ∃ e, σ b = some e ∧ x = .func (.yield e.blk) #[] #[] := by
  simp only [conc, Option.bind_eq_some_iff, Option.some.injEq] at h
  obtain ⟨e, he, h⟩ := h
  exact ⟨e, he, h.symm⟩
theorem inv_eslice {b s0 s1 esz : Nat} {x : Value} (h : conc ρ σ (.eslice b s0 s1 esz) = some x) :
    ∃ e, σ b = some e ∧ s1 ≤ e.cap ∧ e.esz = esz ∧ x = .slice (some ⟨e.blk, if e.cap = s1 then e.off + s0 * esz else e.off + s1 * esz, none⟩) 0 (e.cap - s1) := by
  simp only [conc, Option.bind_eq_some_iff] at h
  obtain ⟨e, he, h⟩ := h
  split at h
  · rename_i hc; simp only [Option.some.injEq] at h; exact ⟨e, he, hc.1, hc.2, h.symm⟩
  · cases h
theorem inv_gslice {b skip len esz : Nat} {x : Value} (h : conc ρ σ (.gslice b skip len esz) = some x) :
    ∃ e, σ b = some e ∧ skip + len ≤ e.cap ∧ e.esz = esz ∧ x = .slice (some ⟨e.blk, e.off + skip * esz, none⟩) len (e.cap - skip) := by
  simp only [conc, Option.bind_eq_some_iff] at h
  obtain ⟨e, he, h⟩ := h
  split at h
  · rename_i h1
    simp only [Option.some.injEq] at h
    exact ⟨e, he, h1.1, h1.2, h.symm⟩
  · cases h
theorem inv_nilm {x : Value} (h : conc ρ σ .nilm = some x) : x = .map none := by simp only [conc, Option.some.injEq] at h; exact h.symm
theorem inv_map {b : Nat} {x : Value} (h : conc ρ σ (.map b) = some x) : ∃ e, σ b = some e ∧ x = .map (some e.blk) := by
  simp only [conc, Option.bind_eq_some_iff, Option.some.injEq] at h
  obtain ⟨e, he, h⟩ := h
  exact ⟨e, he, h.symm⟩
theorem inv_nilf {x : Value} (h : conc ρ σ .nilf = some x) : x = .nilFunc := by simp only [conc, Option.some.injEq] at h; exact h.symm
theorem inv_func {fn : Fn} {f c : List AV} {x : Value} (h : conc ρ σ (.func fn f c) = some x) : ∃ f' c', concL ρ σ f = some f' ∧ concL ρ σ c = some c' ∧ x = .func fn f'.toArray c'.toArray := by
  simp only [conc, Option.bind_eq_some_iff, Option.some.injEq] at h
  obtain ⟨f', h1, c', h2, h⟩ := h
  exact ⟨f', c', h1, h2, h.symm⟩
theorem inv_nili {x : Value} (h : conc ρ σ .nili = some x) : x = .nilIface := by simp only [conc, Option.some.injEq] at h; exact h.symm
theorem inv_iface {t : TypeId} {v : AV} {x : Value} (h : conc ρ σ (.iface t v) = some x) : ∃ y, conc ρ σ v = some y ∧ x = .iface t y := by
  simp only [conc, Option.bind_eq_some_iff, Option.some.injEq] at h
  obtain ⟨e, he, h⟩ := h
  exact ⟨e, he, h.symm⟩
theorem inv_agg {cs : List AV} {x : Value} (h : conc ρ σ (.agg cs) = some x) : ∃ xs, concL ρ σ cs = some xs ∧ x = .agg xs.toArray := by
  simp only [conc, Option.bind_eq_some_iff, Option.some.injEq] at h
  obtain ⟨e, he, h⟩ := h
  exact ⟨e, he, h.symm⟩
theorem inv_tuple {cs : List AV} {x : Value} (h : conc ρ σ (.tuple cs) = some x) : ∃ xs, concL ρ σ cs = some xs ∧ x = .tuple xs.toArray := by
  simp only [conc, Option.bind_eq_some_iff, Option.some.injEq] at h
  obtain ⟨e, he, h⟩ := h
  exact ⟨e, he, h.symm⟩

/-! ### Equality -/

set_option maxHeartbeats 2000000 in
theorem run_equalIn : ∀ (d D : Nat), d ≤ D → ∀ (t : TypeId) (x y : AV) (r : Bool), aeq P d t x y = some r → ∀ (cx cy : Value), conc ρ σ x = some cx → conc ρ σ y = some cy →
    ∀ w, (Op.equalIn D t cx cy).run P w = .ok r w := by
  intro d
  induction d with
  | zero => intro D _ t x y r h; simp [aeq] at h
  | succ d ih =>
    intro D hD t x y r h cx cy hx hy w
    obtain ⟨D, rfl⟩ : ∃ m, D = m + 1 := ⟨D - 1, by omega⟩
    have hD : d ≤ D := by omega
    simp only [aeq, Option.bind_eq_some_iff] at h
    obtain ⟨u, hu, h⟩ := h
    split at h
    · -- bool
      obtain rfl := inv_bool hx; obtain rfl := inv_bool hy
      simp only [Option.some.injEq] at h; subst h
      simp [Op.equalIn, run_underlying hu]
    · split at h
      · rename_i hk
        have hk := kindEq_eq hk
        subst hk
        obtain rfl := inv_int hx; obtain rfl := inv_int hy
        simp only [Option.some.injEq] at h; subst h
        simp [Op.equalIn, run_underlying hu, intEq_eq]
      · cases h
    · obtain ⟨rfl, h1⟩ := inv_str hx; obtain ⟨rfl, h2⟩ := inv_str hy
      simp only [Option.some.injEq] at h; subst h
      rw [run_equalIn_string w D t _ _ hu, strEq_list h1 h2]
    · obtain rfl := inv_nilp hx; obtain rfl := inv_nilp hy
      simp only [Option.some.injEq] at h; subst h
      simp [Op.equalIn, run_underlying hu]
    · obtain rfl := inv_nilp hx; obtain ⟨e, _, rfl⟩ := inv_ptr hy
      simp only [Option.some.injEq] at h; subst h
      simp [Op.equalIn, run_underlying hu]
    · obtain ⟨e, _, rfl⟩ := inv_ptr hx; obtain rfl := inv_nilp hy
      simp only [Option.some.injEq] at h; subst h
      simp [Op.equalIn, run_underlying hu]
    · -- two pointers into one block
      simp only [Option.bind_eq_some_iff] at h
      obtain ⟨n, hn, h⟩ := h
      split at h
      · cases h
      · rename_i hn0
        split at h
        · rename_i hb
          simp at hb hn0
          subst hb
          obtain ⟨e, he, rfl⟩ := inv_ptr hx; obtain ⟨e', he', rfl⟩ := inv_ptr hy
          rw [he] at he'
          simp only [Option.some.injEq] at he' h
          subst he'; subst h
          simp only [Op.equalIn, Sem.run_bind, run_underlying hu, Result.andThen_ok, run_sizeOf hn]
          rw [if_pos (by simpa using hn0)]
          simp only [sameAddr, beq_self_eq_true, if_true, Sem.run_pure]
          congr 1
          rw [Bool.eq_iff_iff]
          simp
        · cases h
    · obtain rfl := inv_nils hx; obtain rfl := inv_nils hy
      simp only [Option.some.injEq] at h; subst h
      simp [Op.equalIn, run_underlying hu]
    · obtain rfl := inv_nils hx; obtain ⟨e, _, rfl⟩ := inv_slice hy
      simp only [Option.some.injEq] at h; subst h
      simp [Op.equalIn, run_underlying hu]
    · obtain rfl := inv_nils hx; obtain ⟨e, _, _, _, rfl⟩ := inv_gslice hy
      simp only [Option.some.injEq] at h; subst h
      simp [Op.equalIn, run_underlying hu]
    · obtain ⟨e, _, rfl⟩ := inv_slice hx; obtain rfl := inv_nils hy
      simp only [Option.some.injEq] at h; subst h
      simp [Op.equalIn, run_underlying hu]
    · obtain ⟨e, _, _, _, rfl⟩ := inv_gslice hx; obtain rfl := inv_nils hy
      simp only [Option.some.injEq] at h; subst h
      simp [Op.equalIn, run_underlying hu]
    · obtain rfl := inv_nilm hx; obtain rfl := inv_nilm hy
      simp only [Option.some.injEq] at h; subst h
      simp [Op.equalIn, run_underlying hu]
    · obtain rfl := inv_nilm hx; obtain ⟨e, _, rfl⟩ := inv_map hy
      simp only [Option.some.injEq] at h; subst h
      simp [Op.equalIn, run_underlying hu]
    · obtain ⟨e, _, rfl⟩ := inv_map hx; obtain rfl := inv_nilm hy
      simp only [Option.some.injEq] at h; subst h
      simp [Op.equalIn, run_underlying hu]
    · obtain rfl := inv_nilf hx; obtain rfl := inv_nilf hy
      simp only [Option.some.injEq] at h; subst h
      simp [Op.equalIn, run_underlying hu]
    · obtain rfl := inv_nilf hx; obtain ⟨f, c, _, _, rfl⟩ := inv_func hy
      simp only [Option.some.injEq] at h; subst h
      simp [Op.equalIn, run_underlying hu]
    · obtain ⟨f, c, _, _, rfl⟩ := inv_func hx; obtain rfl := inv_nilf hy
      simp only [Option.some.injEq] at h; subst h
      simp [Op.equalIn, run_underlying hu]
    · obtain rfl := inv_nili hx; obtain rfl := inv_nili hy
      simp only [Option.some.injEq] at h; subst h
      simp [Op.equalIn, run_underlying hu]
    · obtain rfl := inv_nili hx; obtain ⟨f, _, rfl⟩ := inv_iface hy
      simp only [Option.some.injEq] at h; subst h
      simp [Op.equalIn, run_underlying hu]
    · obtain ⟨f, _, rfl⟩ := inv_iface hx; obtain rfl := inv_nili hy
      simp only [Option.some.injEq] at h; subst h
      simp [Op.equalIn, run_underlying hu]
    · rename_i tx vx ty vy
      obtain ⟨f, hf, rfl⟩ := inv_iface hx; obtain ⟨g, hg, rfl⟩ := inv_iface hy
      split at h
      · rename_i ht
        simp at ht
        subst ht
        simp only [Option.bind_eq_some_iff] at h
        obtain ⟨i, hi, h⟩ := h
        split at h
        · rename_i hc
          have h2 := ih D hD _ _ _ _ h _ _ hf hg w
          have h3 : (typeInfo tx).run P w = .ok i w := by simp [typeInfo, hi]
          simp only [Op.equalIn, Sem.run_bind, run_underlying hu, Result.andThen_ok, ne_eq, not_true_eq_false, if_false, h3, hc, Bool.not_true, Bool.false_eq_true, h2]
        · cases h
      · rename_i ht
        simp only [Option.some.injEq] at h; subst h
        simp at ht
        simp only [Op.equalIn, Sem.run_bind, run_underlying hu, Result.andThen_ok, ne_eq, ht, not_false_eq_true, if_true, Sem.run_pure]
    · -- structs
      rename_i fs xs ys
      split at h
      · cases h
      · rename_i hst
        obtain ⟨xs', hxs, rfl⟩ := inv_agg hx; obtain ⟨ys', hys, rfl⟩ := inv_agg hy
        have hf : P.fieldsOf t = fs := by simp [Program.fieldsOf, hu]
        rw [run_equalIn_struct w D t _ _ (by rw [hf]; exact hu) (by simpa using hst), hf]
        clear hu
        generalize fs.toList = l at h
        clear hx hy hst hf
        induction l generalizing r with
        | nil => simp at h; subst h; simp [Op.eqFields]
        | cons f l ihl =>
          simp only [List.foldr_cons] at h
          simp only [Op.eqFields]
          by_cases hn : f.name = "_"
          · rw [if_pos (by simpa using hn)] at h
            rw [if_neg (by simpa using hn)]
            exact ihl r h
          · rw [if_neg (by simpa using hn)] at h
            rw [if_pos (by simpa using hn)]
            simp only [Option.bind_eq_some_iff] at h
            obtain ⟨a, ha, b, hb, q, hq, h⟩ := h
            obtain ⟨a', ra, ca⟩ := run_part ha hxs w
            obtain ⟨b', rb, cb⟩ := run_part hb hys w
            simp only [Sem.run_bind, ra, rb, Result.andThen_ok, ih D hD _ _ _ _ hq _ _ ca cb w]
            cases q with
            | true =>
              simp only [if_true] at h
              simp only [Bool.not_true, Bool.false_eq_true, if_false]
              exact ihl r h
            | false =>
              simp only [Bool.false_eq_true, if_false, Option.some.injEq] at h
              subst h
              simp
    · -- arrays
      rename_i len e xs ys
      obtain ⟨xs', hxs, rfl⟩ := inv_agg hx; obtain ⟨ys', hys, rfl⟩ := inv_agg hy
      simp only [Option.bind_eq_some_iff] at h
      obtain ⟨n, hn, h⟩ := h
      simp only [Op.equalIn, Sem.run_bind, run_underlying hu, Result.andThen_ok, run_sizeOf hn]
      rw [Std.Legacy.Range.forIn_eq_forIn_range']
      simp only [Std.Legacy.Range.size, Nat.sub_zero, Nat.add_sub_cancel, Nat.div_one]
      clear hu hx hy
      generalize List.range' 0 len = l at h
      induction l generalizing r with
      | nil => simp at h; subst h; simp
      | cons i l ihl =>
        simp only [List.foldr_cons, Option.bind_eq_some_iff] at h
        obtain ⟨a, ha, b, hb, q, hq, h⟩ := h
        obtain ⟨a', ra, ca⟩ := run_part ha hxs w
        obtain ⟨b', rb, cb⟩ := run_part hb hys w
        simp only [List.forIn_cons, Sem.run_bind, ra, rb, Result.andThen_ok, ih D hD _ _ _ _ hq _ _ ca cb w, Sem.run_ite]
        cases q with
        | true =>
          simp only [if_true] at h
          simp only [Bool.not_true, Bool.false_eq_true, if_false, Sem.run_pure, Result.andThen_ok]
          exact ihl r h
        | false =>
          simp only [Bool.false_eq_true, if_false, Option.some.injEq] at h
          subst h
          simp
    · cases h

end
end Go.Sx
