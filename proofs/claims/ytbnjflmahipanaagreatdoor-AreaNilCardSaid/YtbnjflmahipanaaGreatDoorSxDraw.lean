/- Regions whose order is drawn: every order gives what one order gave. -/
import Derived.Test.YtbnjflmahipanaaGreatDoorSxDraw2
import Derived.OrdersIn
namespace Go.Sx
set_option linter.unusedSimpArgs false
set_option linter.unusedVariables false

section
variable {P : Program} {xt : FuncId → Option Xt} {cal : Cal} {nt base : Nat} {ops : Array Oper} {T0 : Tr AV} {S0 : St} {ρ : Env}

structure Inv (P : Program) (ρ : Env) (K : Kp) (nt base n : Nat) (full : List Rec) (T0 : Tr AV) (S0 : St) (σ0 : Sig) (D0 : List ADef) (D : Nat → Bool) (a : Act) (w : World) (σ : Sig) (K' : Kp) : Prop where
  rel : Rel ρ K' (snap S0 D full) w σ
  size : a.tmps.size = nt
  tmp : ∀ t v, val T0 D full t = some v → t < nt ∧ conc ρ σ v = some (a.tmps.getD t undef)
  defs : DefsRel P ρ σ D0 a.defers
  kle : ∀ r ob, K r = some ob → K' r = some ob
  same : K.Same K'
  ext : Ext base σ0 σ
  nxt : base + n ≤ (snap S0 D full).next
  fresh : ∀ r ∈ full, D r.i = false → σ (base + r.i) = none
  pend : ∀ r ∈ full, ∀ ob, r.k = .alloc ob → D r.i = true → (∀ h ∈ full, D h.i = true → h.k.isHeavy = true → h.m.testBit r.i = false) →
    ∃ e, σ (base + r.i) = some e ∧ (K' e.blk).isSome ∧ K e.blk = none ∧ ObjRel ρ σ w e ob
  dist : ∀ j j' e e', j < n → j' < n → σ (base + j) = some e → σ (base + j') = some e' → e.blk = e'.blk → j = j'
  down : ∀ r ∈ full, D r.i = true → ∀ j, r.m.testBit j = true → D j = true

/-- One of the record that may come next. -/
structure Next1 (P : Program) (xt : FuncId → Option Xt) (cal : Cal) (nt base n : Nat) (ops : Array Oper) (T0 : Tr AV) (S0 : St) (full : List Rec) (D : Nat → Bool) (r : Rec) (suf pre : List Rec) : Prop where
  eq : full = suf ++ r :: pre
  ok : ∃ T' S', Ok P xt cal nt base ops T0 S0 (r :: pre) T' S'
  suf : ∀ s ∈ suf, (s.m.testBit r.i = true ∨ r.o.apart ops s.o = true) ∧ (s.k.isHeavy = true → r.k.isHeavy = true → s.m.testBit r.i = true) ∧ s.i ≠ r.i
  pre : ∀ p ∈ pre, p.i < r.i
  all : ∀ s ∈ full, s.i < n
  not : D r.i = false
  before : ∀ j, r.m.testBit j = true → D j = true

variable {K K' : Kp} {n : Nat} {full : List Rec} {σ0 σ : Sig} {D0 : List ADef} {D D' : Nat → Bool} {a : Act} {w : World} {r : Rec} {suf pre : List Rec}

theorem Next1.mem (h : Next1 P xt cal nt base n ops T0 S0 full D r suf pre) : r ∈ full := by rw [h.eq]; simp

/-- Those that look at what this one writes, or write it, come later. -/
theorem Next1.later (h : Next1 P xt cal nt base n ops T0 S0 full D r suf pre) (hi : Inv P ρ K nt base n full T0 S0 σ0 D0 D a w σ K') {s : Rec} (hs : s ∈ suf) (hb : s.m.testBit r.i = true) : D s.i = false := by
  cases hd : D s.i with
  | false => rfl
  | true =>
    have := hi.down s (by rw [h.eq]; simp [hs]) hd _ hb
    rw [h.not] at this
    cases this

theorem Next1.other (h : Next1 P xt cal nt base n ops T0 S0 full D r suf pre) {s : Rec} (hs : s ∈ full) : s = r ∨ s.i ≠ r.i := by
  rw [h.eq] at hs
  rcases List.mem_append.1 hs with hs | hs
  · exact .inr (h.suf s hs).2.2
  · rcases List.mem_cons.1 hs with rfl | hs
    · exact .inl rfl
    · have := h.pre s hs; exact .inr (by omega)

/-- A temporary that the operation looks at. -/
theorem Next1.look (h : Next1 P xt cal nt base n ops T0 S0 full D r suf pre) (hi : Inv P ρ K nt base n full T0 S0 σ0 D0 D a w σ K') {t : Nat} (ht : t ∈ r.o.looksAt ops) : r.T.get t = val T0 D full t := by
  obtain ⟨T', S', Sp, h1, h2, h3, h4, h5, h6, h7⟩ := h.ok
  rw [h1.val t, h.eq]
  have e : suf ++ r :: pre = (suf ++ [r]) ++ pre := by simp
  rw [e, val_suf]
  · refine val_all fun p hp hd => ?_
    rcases h5 p hp with hb | hb
    · rw [h.before _ hb]
    · exact absurd ht ((Oper.apart_spec hb).1 t hd)
  · intro s hs hd
    rcases List.mem_append.1 hs with hs | hs
    · rcases (h.suf s hs).1 with hb | hb
      · exact h.later hi hs hb
      · exact absurd ht ((Oper.apart_spec hb).2.2 t hd)
    · simp only [List.mem_singleton] at hs
      subst hs
      exact h.not

theorem Next1.er (h : Next1 P xt cal nt base n ops T0 S0 full D r suf pre) (hi : Inv P ρ K nt base n full T0 S0 σ0 D0 D a w σ K') : ER ρ σ (evD r.T r.o) a.eval := by
  intro x v hv
  cases x with
  | tmp t =>
    simp only [evD] at hv
    split at hv
    · rename_i hl
      rw [h.look hi (looks_of_lookB hl)] at hv
      exact (hi.tmp t v hv).2
    · cases hv
  | const u => exact conc_ofValue σ 3 u v hv
  | global g => simp only [evD, aeval, Option.some.injEq] at hv; subst hv; simp [conc, Act.eval]
  | func f => simp only [evD, aeval, Option.some.injEq] at hv; subst hv; simp [conc, concL, Act.eval]

theorem Next1.wanted (h : Next1 P xt cal nt base n ops T0 S0 full D r suf pre) (hi : Inv P ρ K nt base n full T0 S0 σ0 D0 D a w σ K') {b : Bool} (hw : awanted ops r.T r.o = some b) : Region.wanted r.o (yielded ops a.tmps) = b :=
  wanted_of' hw fun j want t hg hd v hv => by
    rw [h.look hi (looks_of_guard hg hd)] at hv
    rw [hi.size]
    exact hi.tmp t v hv

/-- The temporaries after it. -/
theorem Next1.val (h : Next1 P xt cal nt base n ops T0 S0 full D r suf pre) (hi : Inv P ρ K nt base n full T0 S0 σ0 D0 D a w σ K') (hD : ∀ j, D' j = if j = r.i then true else D j) (t : Nat) :
    val T0 D' full t = if r.o.dst = some t then some r.v else val T0 D full t := by
  by_cases hd : r.o.dst = some t
  · rw [if_pos hd, h.eq, val_suf]
    · simp [Sx.val, hd, hD]
    · intro s hs hds
      obtain ⟨h1, _, h3⟩ := h.suf s hs
      rw [hD, if_neg h3]
      rcases h1 with hb | hb
      · exact h.later hi hs hb
      · exact absurd hds ((Oper.apart_spec hb).2.1 t hd)
  · rw [if_neg hd]
    refine val_all fun s hs hds => ?_
    rcases h.other hs with rfl | hne
    · exact absurd hds hd
    · rw [hD, if_neg hne]

theorem Next1.tmps (h : Next1 P xt cal nt base n ops T0 S0 full D r suf pre) (hi : Inv P ρ K nt base n full T0 S0 σ0 D0 D a w σ K') (hD : ∀ j, D' j = if j = r.i then true else D j) {σ' : Sig} {z : Value}
    (hle : σ.le σ') (hz : conc ρ σ' r.v = some z) : ∀ t v, Sx.val T0 D' full t = some v → t < nt ∧ conc ρ σ' v = some ((a.put r.o.dst z).tmps.getD t undef) := by
  intro t v hv
  rw [h.val hi hD t] at hv
  obtain ⟨T', S', Sp, _, _, _, _, _, h6, _⟩ := h.ok
  split at hv
  · rename_i hd
    simp only [Option.some.injEq] at hv
    subst hv
    rw [hd] at h6
    have hlt := put_lt h6
    refine ⟨hlt, ?_⟩
    rw [hz, hd]
    simp [Act.put, hi.size, hlt]
  · rename_i hd
    obtain ⟨h1, h2⟩ := hi.tmp t v hv
    refine ⟨h1, ?_⟩
    rw [conc_mono hle _ _ h2]
    cases hdst : r.o.dst with
    | none => rfl
    | some d =>
      rw [hdst] at hd
      have : d ≠ t := fun hh => hd (by rw [hh])
      simp [Act.put, Array.getD_eq_getD_getElem?, this]

theorem Next1.downs (h : Next1 P xt cal nt base n ops T0 S0 full D r suf pre) (hi : Inv P ρ K nt base n full T0 S0 σ0 D0 D a w σ K') (hD : ∀ j, D' j = if j = r.i then true else D j) :
    ∀ s ∈ full, D' s.i = true → ∀ j, s.m.testBit j = true → D' j = true := by
  intro s hs hd j hj
  rw [hD]
  split
  · rfl
  · rcases h.other hs with rfl | hne
    · exact h.before j hj
    · rw [hD, if_neg hne] at hd
      exact hi.down s hs hd j hj

theorem Next1.snapSame (h : Next1 P xt cal nt base n ops T0 S0 full D r suf pre) (hD : ∀ j, D' j = if j = r.i then true else D j) (hk : r.k.isHeavy = false) : snap S0 D' full = snap S0 D full :=
  snap_all fun s hs hh => by
    rcases h.other hs with rfl | hne
    · rw [hk] at hh; cases hh
    · rw [hD, if_neg hne]

/-- It makes nothing and changes nothing. -/
theorem Inv.plain (hi : Inv P ρ K nt base n full T0 S0 σ0 D0 D a w σ K') (h : Next1 P xt cal nt base n ops T0 S0 full D r suf pre) (hD : ∀ j, D' j = if j = r.i then true else D j) (hk : r.k.isHeavy = false) (hk' : ∀ ob, r.k ≠ .alloc ob) {z : Value}
    (hz : conc ρ σ r.v = some z) : Inv P ρ K nt base n full T0 S0 σ0 D0 D' (a.put r.o.dst z) w σ K' := by
  have hsnap := h.snapSame (S0 := S0) hD hk
  refine ⟨by rw [hsnap]; exact hi.rel, ?_, h.tmps hi hD (Sig.le.refl σ) hz, ?_, hi.kle, hi.same, hi.ext, by rw [hsnap]; exact hi.nxt, fun s hs hd => ?_, fun s hs ob hsk hd hno => ?_, hi.dist, h.downs hi hD⟩
  · cases hdst : r.o.dst <;> simp [Act.put, hi.size]
  · cases hdst : r.o.dst <;> exact hi.defs
  · rcases h.other hs with rfl | hne
    · rw [hD, if_pos rfl] at hd; cases hd
    · rw [hD, if_neg hne] at hd; exact hi.fresh s hs hd
  · rcases h.other hs with rfl | hne
    · exact absurd hsk (hk' ob)
    · rw [hD, if_neg hne] at hd
      refine hi.pend s hs ob hsk hd fun g hg hgd hgh => hno g hg ?_ hgh
      rw [hD]; split <;> first | rfl | exact hgd

/-- It makes a block, that is put by. -/
theorem Inv.alloc (hi : Inv P ρ K nt base n full T0 S0 σ0 D0 D a w σ K') (h : Next1 P xt cal nt base n ops T0 S0 full D r suf pre) (hD : ∀ j, D' j = if j = r.i then true else D j) {ob : AObj} (hk : r.k = .alloc ob) {z : Value} {c : Obj}
    (ho : ∀ σ' : Sig, σ.le σ' → ObjRel ρ σ' (w.alloc c) ⟨w.heap.size, 0, 0, 0⟩ ob ∧ (σ' (base + r.i) = some ⟨w.heap.size, 0, 0, 0⟩ → conc ρ σ' r.v = some z)) :
    Inv P ρ K nt base n full T0 S0 σ0 D0 D' (a.put r.o.dst z) (w.alloc c) (σ.put (base + r.i) ⟨w.heap.size, 0, 0, 0⟩) { K' with blk := fun b => if b = w.heap.size then some c else K' b } := by
  have hkh : r.k.isHeavy = false := by rw [hk]; rfl
  have hsnap := h.snapSame (S0 := S0) hD hkh
  have hrn := h.all r h.mem
  have hnx := hi.nxt
  have hfr := hi.fresh r h.mem h.not
  obtain ⟨hR, hle⟩ := hi.rel.frameNew (id := base + r.i) (e := ⟨w.heap.size, 0, 0, 0⟩) (ob := c) (by omega) hfr rfl
  have hkl : ∀ b ob, K b = some ob → b < w.heap.size := fun b ob hb => (Array.getElem?_eq_some_iff.1 (hi.rel.keep b ob (hi.kle b ob hb))).1
  have hput : ∀ j, j ≠ r.i → (σ.put (base + r.i) ⟨w.heap.size, 0, 0, 0⟩) (base + j) = σ (base + j) := fun j hj => by
    simp only [Sig.put]; rw [if_neg (by omega)]
  have hself : (σ.put (base + r.i) ⟨w.heap.size, 0, 0, 0⟩) (base + r.i) = some ⟨w.heap.size, 0, 0, 0⟩ := by simp [Sig.put]
  refine ⟨by rw [hsnap]; exact hR, ?_, h.tmps hi hD hle ((ho _ hle).2 hself), ?_, fun b ob' hb => ?_, hi.same, ?_, by rw [hsnap]; exact hi.nxt, fun s hs hd => ?_, fun s hs ob' hsk hd hno => ?_, fun j j' e e' hj hj' he he' hb => ?_, h.downs hi hD⟩
  · cases hdst : r.o.dst <;> simp [Act.put, hi.size]
  · cases hdst : r.o.dst <;> exact hi.defs.mono hle
  · have := hkl b ob' hb
    dsimp only
    rw [if_neg (by omega)]
    exact hi.kle b ob' hb
  · intro b hb
    simp only [Sig.put]
    rw [if_neg (by omega)]
    exact hi.ext b hb
  · rcases h.other hs with rfl | hne
    · rw [hD, if_pos rfl] at hd; cases hd
    · rw [hD, if_neg hne] at hd
      rw [hput _ hne]
      exact hi.fresh s hs hd
  · rcases h.other hs with rfl | hne
    · rw [hk] at hsk
      cases hsk
      refine ⟨_, hself, by simp, ?_, (ho _ hle).1⟩
      cases hK : K w.heap.size with
      | none => rfl
      | some ob' => have := hkl _ _ hK; omega
    · rw [hD, if_neg hne] at hd
      obtain ⟨e, h1, h2, h3, h4⟩ := hi.pend s hs ob' hsk hd fun g hg hgd hgh => hno g hg (by rw [hD]; split <;> first | rfl | exact hgd) hgh
      have hlt := (hi.rel.low _ _ h1).2
      refine ⟨e, by rw [hput _ hne]; exact h1, ?_, h3, (h4.mono hle).world ?_⟩
      · dsimp only; rw [if_neg (by omega)]; exact h2
      · simp only [World.alloc, Array.getElem?_push]; rw [if_neg (by omega)]
  · by_cases hjr : j = r.i <;> by_cases hjr' : j' = r.i
    · omega
    · rw [hjr, hself] at he
      rw [hput _ hjr'] at he'
      simp only [Option.some.injEq] at he
      subst he
      have := (hi.rel.low _ _ he').2
      dsimp only at hb
      omega
    · rw [hjr', hself] at he'
      rw [hput _ hjr] at he
      simp only [Option.some.injEq] at he'
      subst he'
      have := (hi.rel.low _ _ he).2
      dsimp only at hb
      omega
    · rw [hput _ hjr] at he
      rw [hput _ hjr'] at he'
      exact hi.dist j j' e e' hj hj' he he' hb


/-- It is a call, or writes. -/
theorem Inv.heavy (hi : Inv P ρ K nt base n full T0 S0 σ0 D0 D a w σ K') (h : Next1 P xt cal nt base n ops T0 S0 full D r suf pre) (hD : ∀ j, D' j = if j = r.i then true else D j) {Sc S' : St} (hk : r.k = .heavy Sc S') (hgk : GlobK ρ K) :
    ∃ K'', Rel ρ K'' Sc w σ ∧ awanted ops r.T r.o = some true ∧ classOf P r.o = .heavy ∧ hop P xt cal r.T Sc r.o = some (r.v, S') ∧
      ∀ z w' σ', conc ρ σ' r.v = some z → Rel ρ K'' S' w' σ' → Ext Sc.next σ σ' → Sc.next ≤ S'.next → Inv P ρ K nt base n full T0 S0 σ0 D0 D' (a.put r.o.dst z) w' σ' K'' := by
  obtain ⟨T', S1, Sp, h1, h2, h3, h4, h5, h6, h7⟩ := h.ok
  unfold KindOk at h7
  simp only [hk] at h7
  obtain ⟨-, g2, g3, g4, g5, g6⟩ := h7
  have hkh : r.k.isHeavy = true := by rw [hk]; rfl
  have hsufD : ∀ s ∈ suf, s.k.isHeavy = true → D s.i = false := fun s hs hh => h.later hi hs ((h.suf s hs).2.1 hh hkh)
  have hpreD : ∀ p ∈ pre, p.k.isHeavy = true → D p.i = true := fun p hp hh => h.before _ (g6 p hp hh)
  have hS : snap S0 D full = Sp := by
    rw [h1.snap, h.eq]
    have e : suf ++ r :: pre = (suf ++ [r]) ++ pre := by simp
    rw [e, snap_suf]
    · exact snap_all fun p hp hh => by rw [hpreD p hp hh]
    · intro s hs hh
      rcases List.mem_append.1 hs with hs | hs
      · exact hsufD s hs hh
      · simp only [List.mem_singleton] at hs
        subst hs
        exact h.not
  have hS' : snap S0 D' full = S' := by
    rw [h.eq, snap_suf]
    · simp [Sx.snap, hk, hD]
    · intro s hs hh
      rw [hD, if_neg (h.suf s hs).2.2]
      exact hsufD s hs hh
  obtain ⟨p1, p2⟩ := h1.pend
  have hrel := hi.rel
  have hnx := hi.nxt
  rw [hS] at hrel hnx
  have hin : ∀ s ∈ pre, s ∈ full := fun s hs => by rw [h.eq]; simp [hs]
  have hC : ∀ p ∈ (dpend pre).filter (fun p => r.m.testBit p.1), p.1 < n ∧ r.m.testBit p.1 = true ∧ ∃ e, σ (base + p.1) = some e ∧ (K' e.blk).isSome ∧ K e.blk = none ∧ ObjRel ρ σ w e p.2 := by
    intro p hp
    rw [List.mem_filter] at hp
    obtain ⟨q, q1, q2, q3, q4⟩ := p1 p hp.1
    have hb : r.m.testBit q.i = true := by rw [q2]; exact hp.2
    obtain ⟨e, e1, e2, e3, e4⟩ := hi.pend q (hin q q1) p.2 q3 (h.before _ hb) fun g hg hgd hgh => by
      rw [h.eq] at hg
      rcases List.mem_append.1 hg with hg | hg
      · rw [hsufD g hg hgh] at hgd; cases hgd
      · rcases List.mem_cons.1 hg with rfl | hg
        · rw [h.not] at hgd; cases hgd
        · exact q4 g hg hgh
    rw [q2] at e1
    exact ⟨by rw [← q2]; exact h.all q (hin q q1), hp.2, e, e1, e2, e3, e4⟩
  obtain ⟨K'', r1, r2, r3, r4⟩ := commit_rel (n := n) hi.dist g4 hrel (fun p hp => let ⟨a1, _, e, a2, a3, a0, a4⟩ := hC p hp; ⟨a1, e, a2, a3, a4, fun g cs hg hbe => by obtain ⟨_, _, _, hq, _⟩ := hgk g cs hg; rw [← hbe, a0] at hq; cases hq⟩) (p2.filter _)
  refine ⟨K'', r1, g2, g3, g5, fun z w' σ' hz hR hE hn => ?_⟩
  have hle := r1.le hE
  have hlow : ∀ j, j < n → σ' (base + j) = σ (base + j) := fun j hj => hE _ (by omega)
  refine ⟨by rw [hS']; exact hR, ?_, h.tmps hi hD hle hz, ?_, fun b ob hb => ?_, hi.same.trans r4, ?_, by rw [hS']; omega, fun s hs hd => ?_, fun s hs ob hsk hd hno => ?_, fun j j' e e' hj hj' he he' hb => ?_, h.downs hi hD⟩
  · cases hdst : r.o.dst <;> simp [Act.put, hi.size]
  · cases hdst : r.o.dst <;> exact hi.defs.mono hle
  · rw [r3]
    · exact hi.kle b ob hb
    · intro p hp e he hbe
      obtain ⟨_, _, e', a2, _, a3, _⟩ := hC p hp
      rw [he] at a2
      simp only [Option.some.injEq] at a2
      subst a2
      rw [hbe, hb] at a3
      cases a3
  · exact hi.ext.trans hE (by omega)
  · rw [hlow _ (h.all s hs)]
    rcases h.other hs with rfl | hne
    · rw [hD, if_pos rfl] at hd; cases hd
    · rw [hD, if_neg hne] at hd; exact hi.fresh s hs hd
  · rcases h.other hs with rfl | hne
    · rw [hk] at hsk; cases hsk
    · rw [hD, if_neg hne] at hd
      have hnr : r.m.testBit s.i = false := hno r h.mem (by rw [hD, if_pos rfl]) hkh
      obtain ⟨e, e1, e2, e3, e4⟩ := hi.pend s hs ob hsk hd fun g hg hgd hgh => hno g hg (by rw [hD]; split <;> first | rfl | exact hgd) hgh
      have hK : K'' e.blk = K' e.blk := r3 _ fun p hp e' he' hbe => by
        obtain ⟨a1, a2, _⟩ := hC p hp
        have := hi.dist _ _ _ _ a1 (h.all s hs) he' e1 hbe
        rw [this, hnr] at a2
        cases a2
      refine ⟨e, by rw [hlow _ (h.all s hs)]; exact e1, by rw [hK]; exact e2, e3, (e4.mono hle).world ?_⟩
      obtain ⟨ob', hob'⟩ := Option.isSome_iff_exists.1 e2
      rw [hR.keep _ _ (by rw [hK]; exact hob'), hi.rel.keep _ _ hob']
  · rw [hlow _ hj] at he
    rw [hlow _ hj'] at he'
    exact hi.dist j j' e e' hj hj' he he' hb

/-- A call, or a write. -/
theorem hop_sound (hxt : XtOk P xt) (hcal : CalOk P xt ρ cal) {ro : Option Nat} {o : Oper} {T : Tr AV} {S S' : St} {v : AV} (hcl : classOf P o = .heavy) (h : hop P xt cal T S o = some (v, S')) (hR : Rel ρ K S w σ) (her : ER ρ σ (evD T o) a.eval)
    {next : Act → World → Prop} {Q : Exit → Act → World → Prop}
    (hk : ∀ z w' σ', conc ρ σ' v = some z → Rel ρ K S' w' σ' → Ext S.next σ σ' → S.next ≤ S'.next → next (a.put o.dst z) w') : o.wpIn (Fw ro) 0 P a w next Q := by
  refine ⟨fun _ _ => trivial, ?_⟩
  simp only [hop, Option.bind_eq_some_iff] at h
  obtain ⟨hv, hhv, h⟩ := h
  have hsem : o.semAt ro a.eval = execOp a.eval o := Oper.semAt_eq _ _ _ (fun d hd => by simp [aheavy, hd] at hhv)
  have hok := run_aheavy hR her hxt hhv
  show o.uponIn _ _ _ _ _ _ ((o.semAt ro a.eval).run P w)
  rw [hsem]
  cases hv with
  | val v' S1 =>
    simp only [Option.some.injEq, Prod.mk.injEq] at h
    obtain ⟨rfl, rfl⟩ := h
    obtain ⟨nx, w', σ', h1, h2, h3, h4, h5⟩ := hok
    rw [h1]
    rcases h2 with ⟨rfl, rfl⟩ | ⟨z, rfl, hz⟩
    · exact hk _ _ _ undef_conc h3 h4 h5
    · exact hk _ _ _ hz h3 h4 h5
  | enter f args =>
    obtain ⟨xs, h1, h2⟩ := hok
    rw [h1]
    refine ⟨fun h => (by cases h), ?_⟩
    refine CallsIn.mono (hcal f args S v S' K w σ xs.toList h hR h2) ?_
    rintro e w' ⟨x, σ', rfl, hx, hR', hE, hn⟩
    exact hk _ _ _ hx hR' hE hn
  | round b args => cases h

theorem rchks_spec {r : Rec} : ∀ {l : List Rec}, rchks P ρ.G S0 r l = true → (∀ h ∈ l, D h.i = true → h.m.testBit r.i = false) → (∀ j, r.m.testBit j = true → D j = true) → rchk P ρ.G r (snap S0 D l) = true
  | [], h, _, _ => h
  | g :: l, h, h1, h2 => by
    simp only [rchks] at h
    simp only [snap]
    split at h
    · rename_i Sc S' hk
      simp only [hk, Bool.and_eq_true, Bool.or_eq_true] at h ⊢
      obtain ⟨ha, hb⟩ := h
      cases hd : D g.i with
      | true =>
        simp only [if_true]
        rcases ha with ha | ha
        · rw [h1 g (by simp) hd] at ha; cases ha
        · exact ha
      | false =>
        simp only [Bool.false_eq_true, if_false]
        rcases hb with hb | hb
        · rw [h2 _ hb] at hd; cases hd
        · exact rchks_spec hb (fun g' hg' => h1 g' (by simp [hg'])) h2
    · rename_i hk
      have ih := rchks_spec h (fun g' hg' => h1 g' (by simp [hg'])) h2
      split
      · rename_i hk'; exact absurd hk' (hk _ _)
      · exact ih

theorem reads_spec {full : List Rec} : ∀ {l : List Rec}, reads P ρ.G S0 full l = true → ∀ r ∈ l, r.k = .read → rchks P ρ.G S0 r full = true
  | [], _, r, hr, _ => by simp at hr
  | q :: l, h, r, hr, hk => by
    simp only [reads, Bool.and_eq_true] at h
    rcases List.mem_cons.1 hr with rfl | hr
    · have := h.1
      rw [hk] at this
      exact this
    · exact reads_spec h.2 r hr hk

/-- One operation that may come next. -/
theorem Inv.step (hi : Inv P ρ K nt base n full T0 S0 σ0 D0 D a w σ K') (h : Next1 P xt cal nt base n ops T0 S0 full D r suf pre) (hD : ∀ j, D' j = if j = r.i then true else D j) (hxt : XtOk P xt) (hcal : CalOk P xt ρ cal) (hgk : GlobK ρ K)
    (hread : reads P ρ.G S0 full full = true) {ro : Option Nat} {i : Nat} (ho : ops[i]? = some r.o) {next : Act → World → Prop} {Q : Exit → Act → World → Prop}
    (hk : ∀ a' w' σ' K'', Inv P ρ K nt base n full T0 S0 σ0 D0 D' a' w' σ' K'' → next a' w') : wpOpIn (Fw ro) 0 P ops Q i next a w := by
  obtain ⟨T', S1, Sp, h1, h2, h3, h4, h5, h6, h7⟩ := h.ok
  unfold KindOk at h7
  have her := h.er hi
  have val1 : ∀ {z : Value} {w' : World}, awanted ops r.T r.o = some true → (classOf P r.o ≠ .heavy) → (execOp a.eval r.o).run P w = .ok (.value z) w' → next (a.put r.o.dst z) w' → wpOpIn (Fw ro) 0 P ops Q i next a w := by
    intro z w' hw hcl hrun hn
    have hsem : r.o.semAt ro a.eval = execOp a.eval r.o := Oper.semAt_eq _ _ _ (fun d hd => hcl (by simp [classOf, hd]))
    unfold wpOpIn
    simp only [ho, h.wanted hi hw, if_true]
    refine ⟨fun _ _ => trivial, ?_⟩
    show r.o.uponIn _ _ _ _ _ _ ((r.o.semAt ro a.eval).run P w)
    rw [hsem, hrun]
    exact hn
  cases hkk : r.k with
  | quiet =>
    simp only [hkk] at h7
    obtain ⟨-, ⟨hw, hv⟩ | ⟨hw, hcl, hv⟩⟩ := h7
    · unfold wpOpIn
      simp only [ho, h.wanted hi hw, Bool.false_eq_true, if_false]
      refine ⟨fun _ _ => trivial, hk _ _ σ K' (hi.plain h hD (by rw [hkk]; rfl) (fun ob hh => by rw [hkk] at hh; cases hh) ?_)⟩
      rw [hv]; exact undef_conc
    · obtain ⟨z, z1, z2⟩ := run_apure her hv w
      exact val1 hw (by rw [hcl]; simp) z1 (hk _ _ σ K' (hi.plain h hD (by rw [hkk]; rfl) (fun ob hh => by rw [hkk] at hh; cases hh) z2))
  | read =>
    simp only [hkk] at h7
    obtain ⟨-, hw, hcl⟩ := h7
    have hr := rchks_spec (D := D) (reads_spec hread r h.mem hkk) (fun g hg hgd => by
      cases hb : g.m.testBit r.i with
      | false => rfl
      | true =>
        have := hi.down g hg hgd _ hb
        rw [h.not] at this
        cases this) h.before
    unfold rchk at hr
    split at hr
    · rename_i v hv
      have hv' := avEq_eq _ _ hr
      subst hv'
      obtain ⟨z, z1, z2⟩ := run_aread her hi.rel.obj hi.rel.globs hi.rel.sep hv
      exact val1 hw (by rw [hcl]; simp) z1 (hk _ _ σ K' (hi.plain h hD (by rw [hkk]; rfl) (fun ob hh => by rw [hkk] at hh; cases hh) z2))
    · cases hr
  | alloc ob =>
    simp only [hkk] at h7
    obtain ⟨-, hw, hcl, hv⟩ := h7
    obtain ⟨z, c, z1, _, z2⟩ := run_aalloc her hv w
    exact val1 hw (by rw [hcl]; simp) z1 (hk _ _ _ _ (hi.alloc h hD hkk z2))
  | heavy Sc S' =>
    obtain ⟨K'', q1, q2, q3, q4, q5⟩ := hi.heavy h hD hkk hgk
    unfold wpOpIn
    simp only [ho, h.wanted hi q2, if_true]
    exact hop_sound hxt hcal q3 q4 q1 her fun z w' σ' hz hR hE hn => hk _ _ σ' K'' (q5 z w' σ' hz hR hE hn)


theorem Ok.at {rs : List Rec} : ∀ {T : Tr AV} {S : St}, Ok P xt cal nt base ops T0 S0 rs T S → ∀ i, i < rs.length → ∃ suf r pre, rs = suf ++ r :: pre ∧ r.i = i ∧ ops[i]? = some r.o := by
  induction rs with
  | nil => intro T S _ i hi; simp at hi
  | cons q rs ih =>
    rintro T S ⟨Sp, g1, g2, g3, _⟩ i hi
    by_cases hq : i = rs.length
    · exact ⟨[], q, rs, rfl, by rw [g2, hq], by rw [hq, ← g2]; exact g3⟩
    · obtain ⟨suf, r, pre, h1, h2, h3⟩ := ih g1 i (by simp at hi; omega)
      exact ⟨q :: suf, r, pre, by rw [h1]; rfl, h2, h3⟩

theorem set_listed {listed : Array Bool} {i : Nat} (hi : i < listed.size) (j : Nat) : (listed.setIfInBounds i true).getD j false = if j = i then true else listed.getD j false := by
  by_cases h : j = i
  · subst h; simp [hi]
  · have h' : i ≠ j := fun hh => h hh.symm
    simp [Array.getD_eq_getD_getElem?, Array.getElem?_setIfInBounds, h, h']

theorem drawn_go {T : Tr AV} {S : St} (hok : Ok P xt cal nt base ops T0 S0 full T S) (hlen : full.length = ops.size) (hxt : XtOk P xt) (hcal : CalOk P xt ρ cal) (hgk : GlobK ρ K) (hread : reads P ρ.G S0 full full = true) {ro : Option Nat} {Q : Exit → Act → World → Prop}
    (hk : ∀ D a w σ K', (∀ i, i < ops.size → D i = true) → Inv P ρ K nt base ops.size full T0 S0 σ0 D0 D a w σ K' → Q .normal a w) :
    ∀ (fuel : Nat) (listed : Array Bool) (a : Act) (w : World) (σ : Sig) (K' : Kp), listed.size = ops.size → listed.toList.count false ≤ fuel →
      Inv P ρ K nt base ops.size full T0 S0 σ0 D0 (fun i => listed.getD i false) a w σ K' → wpAnyIn (Fw ro) 0 P .any ops Q fuel listed a w := by
  have hready : ∀ {listed : Array Bool}, listed.size = ops.size → ∀ i, i < ops.size → listed.getD i false = false → (∀ j, j < i → listed.getD j false = true) → i ∈ Region.ready .any ops listed := by
    intro listed hsz i hi hn hall
    obtain ⟨suf, r, pre, e1, e2, e3⟩ := hok.at i (by omega)
    have hok' := hok
    rw [e1] at hok'
    obtain ⟨⟨T', S', Sp, q1, q2, q3, q4, _⟩, _, _, hlt⟩ := hok'.split
    refine mem_ready.2 ⟨?_, r.o, e3, fun e he hb => ?_⟩
    · have : i < listed.size := by omega
      simp [this] at hn ⊢
      exact hn
    · obtain ⟨p, hp, hpe⟩ := q4.1 e he hb
      rw [← hpe]
      exact hall _ (by rw [← e2]; exact hlt p hp)
  have hend : ∀ {listed : Array Bool}, listed.size = ops.size → Region.ready .any ops listed = [] → ∀ i, i < ops.size → listed.getD i false = true := by
    intro listed hsz hnil i
    induction i using Nat.strongRecOn with
    | _ i ih =>
      intro hi
      cases hd : listed.getD i false with
      | true => rfl
      | false =>
        have := hready hsz i hi hd (fun j hj => ih j hj (by omega))
        rw [hnil] at this
        simp at this
  intro fuel
  induction fuel with
  | zero =>
    intro listed a w σ K' hsz hcnt hi
    have hall : ∀ i, i < ops.size → listed.getD i false = true := by
      intro i hlt
      have h0 : listed.toList.count false = 0 := by omega
      rw [List.count_eq_zero] at h0
      have hlt' : i < listed.size := by omega
      cases hd : listed.getD i false with
      | true => rfl
      | false =>
        simp [hlt'] at hd
        exact absurd (by rw [← hd]; simp) h0
    refine ⟨?_, hk _ a w σ K' hall hi⟩
    apply List.eq_nil_iff_forall_not_mem.2
    intro i hr
    obtain ⟨h1, o, ho, _⟩ := mem_ready.1 hr
    have hlt : i < ops.size := (Array.getElem?_eq_some_iff.1 ho).1
    have := hall i hlt
    have hlt' : i < listed.size := by omega
    simp [hlt'] at h1 this
    rw [this] at h1
    cases h1
  | succ fuel ih =>
    intro listed a w σ K' hsz hcnt hi
    refine ⟨fun hnil => hk _ a w σ K' (hend hsz hnil) hi, fun i hr => ?_⟩
    obtain ⟨h1, o, ho, hall⟩ := mem_ready.1 hr
    have hlt : i < ops.size := (Array.getElem?_eq_some_iff.1 ho).1
    have hlt' : i < listed.size := by omega
    obtain ⟨suf, r, pre, e1, e2, e3⟩ := hok.at i (by omega)
    have hok' := hok
    rw [e1] at hok'
    obtain ⟨hok1, hsuf, _, hpre⟩ := hok'.split
    have hnot : listed.getD i false = false := by simp [hlt'] at h1 ⊢; exact h1
    have hro : r.o = o := by rw [ho] at e3; simpa using e3.symm
    have hnext : Next1 P xt cal nt base ops.size ops T0 S0 full (fun i => listed.getD i false) r suf pre := by
      refine ⟨e1, hok1, hsuf, hpre, fun s hs => by rw [← hlen]; exact hok.index s hs, by rw [e2]; exact hnot, fun j hj => ?_⟩
      obtain ⟨T', S', Sp, q1, q2, q3, q4, _⟩ := hok1
      obtain ⟨e, he, hb, h⟩ := q4.2 j hj
      rw [hro] at he
      have hle := hall e he hb
      rcases h with rfl | ⟨p, hp, h3, h4⟩
      · exact hle
      · exact hi.down p (by rw [e1]; simp [hp]) (by rw [h3]; exact hle) j h4
    refine hi.step hnext (D' := fun j => (listed.setIfInBounds i true).getD j false) (fun j => by rw [e2]; exact set_listed hlt' j) hxt hcal hgk hread (i := i) (by rw [e3]) fun a' w' σ' K'' hi' => ?_
    refine ih _ a' w' σ' K'' (by simp [hsz]) ?_ hi'
    have hget : listed.toList[i]'(by simpa using hlt') = false := by simp [hlt'] at hnot; simpa using hnot
    rw [Array.toList_setIfInBounds, List.count_set (by simpa using hlt'), hget]
    simp
    have hpos : 0 < listed.toList.count false := List.count_pos_iff.2 (by rw [← hget]; simp)
    simp at hcnt hpos
    omega

theorem wpIn_region_drawn (hm : P.follows .mixedOrders = true) (hxt : XtOk P xt) (hcal : CalOk P xt ρ cal) {ro : Option Nat} {id : Nat} {c c' : Cx} {Q : Exit → Act → World → Prop} (h : adraw P ρ.G xt cal nt ops c = some c') (hc : CRel P ρ K nt c a w σ)
    (hk : ∀ a' w' σ', CRel P ρ K nt c' a' w' σ' → Ext c.S.next σ σ' → c.S.next ≤ c'.S.next → Q .normal a' w') : (Code.region id ops true).wpIn (Fw ro) 0 P Q a w := by
  simp only [adraw, Option.bind_eq_some_iff] at h
  obtain ⟨⟨full, T, S⟩, hgo, h⟩ := h
  split at h
  · rename_i hread
    simp only [Option.bind_eq_some_iff, Option.some.injEq] at h
    obtain ⟨S', hcm, rfl⟩ := h
    obtain ⟨hok, hlen⟩ := dgo_ok (T0 := c.T) (S0 := ⟨c.S.h, c.S.next + ops.size⟩) hgo rfl (fun j => by simp) ⟨rfl, rfl⟩
    have hlen : full.length = ops.size := by rw [hlen]; simp
    refine wpIn_region_any hm ?_
    have hlow : ∀ j, σ (c.S.next + j) = none := fun j => by
      cases hs : σ (c.S.next + j) with
      | none => rfl
      | some e => have := (hc.rel.low _ _ hs).1; omega
    have hD0 : ∀ i, (Array.replicate ops.size false).getD i false = false := fun i => by
      simp only [Array.getD_eq_getD_getElem?, Array.getElem?_replicate]
      split <;> rfl
    have hsnap : snap ⟨c.S.h, c.S.next + ops.size⟩ (fun i => (Array.replicate ops.size false).getD i false) full = ⟨c.S.h, c.S.next + ops.size⟩ := by
      have := snap_suf (S0 := ⟨c.S.h, c.S.next + ops.size⟩) (D := fun i => (Array.replicate ops.size false).getD i false) (l := []) (suf := full) fun r _ _ => hD0 r.i
      simpa [snap] using this
    have hval : ∀ t, val c.T (fun i => (Array.replicate ops.size false).getD i false) full t = c.T.get t := fun t => by
      have := val_suf (T0 := c.T) (D := fun i => (Array.replicate ops.size false).getD i false) (l := []) (t := t) (suf := full) fun r _ _ => hD0 r.i
      simpa [val] using this
    refine drawn_go (K := K) (σ0 := σ) (D0 := c.D) hok hlen hxt hcal hc.rel.glob hread (fun D a' w' σ' K' hall hi => ?_) ops.size _ a _ σ K (by simp) ?_ ?_
    · have hnx := hi.nxt
      have hsn : snap ⟨c.S.h, c.S.next + ops.size⟩ D full = S := by
        rw [hok.snap]
        exact snap_all fun r hr _ => hall _ (by rw [← hlen]; exact hok.index r hr)
      have hrel := hi.rel
      rw [hsn] at hrel hnx
      obtain ⟨p1, p2⟩ := hok.pend
      have hC : ∀ p ∈ dpend full, p.1 < ops.size ∧ ∃ e, σ' (c.S.next + p.1) = some e ∧ (K' e.blk).isSome ∧ K e.blk = none ∧ ObjRel ρ σ' w' e p.2 := fun p hp => by
        obtain ⟨q, q1, q2, q3, q4⟩ := p1 p hp
        have hlt : q.i < ops.size := by rw [← hlen]; exact hok.index q q1
        obtain ⟨e, e1, e2, e3, e4⟩ := hi.pend q q1 p.2 q3 (hall _ hlt) fun g hg _ hgh => q4 g hg hgh
        rw [q2] at e1 hlt
        exact ⟨hlt, e, e1, e2, e3, e4⟩
      obtain ⟨K'', r1, r2, r3, r4⟩ := commit_rel hi.dist hcm hrel (fun p hp => let ⟨a1, e, a2, a3, a0, a4⟩ := hC p hp; ⟨a1, e, a2, a3, a4, fun g cs hg hbe => by obtain ⟨_, _, _, hq, _⟩ := hc.rel.glob g cs hg; rw [← hbe, a0] at hq; cases hq⟩) p2
      refine hk a' w' σ' ⟨r1.less (fun b ob hb => ?_) (hi.same.trans r4) hc.rel.glob, hi.size, fun t v hv => hi.tmp t v ?_, hi.defs⟩ hi.ext (by simp only; omega)
      · rw [r3]
        · exact hi.kle b ob hb
        · intro p hp e he hbe
          obtain ⟨_, e', a2, _, a3, _⟩ := hC p hp
          rw [he] at a2
          simp only [Option.some.injEq] at a2
          subst a2
          rw [hbe, hb] at a3
          cases a3
      · have : val c.T D full t = val c.T (fun _ => true) full t := val_all fun r hr _ => hall _ (by rw [← hlen]; exact hok.index r hr)
        rw [this, ← hok.val t]
        exact hv
    · refine Nat.le_trans List.count_le_length ?_
      simp
    · refine ⟨?_, hc.size, fun t v hv => hc.tmp t v (by rw [← hval t]; exact hv), hc.defs, fun _ _ h => h, ⟨rfl, rfl, rfl⟩, Ext.refl _ _, by rw [hsnap]; exact Nat.le_refl _, fun r _ _ => hlow r.i, fun r _ ob _ hd => ?_, fun j j' e e' _ _ he => ?_, fun r _ hd => ?_⟩
      · rw [hsnap]
        exact (hc.rel.forget (S' := ⟨c.S.h, c.S.next + ops.size⟩) (by simp) fun _ _ h => h).heap rfl ⟨rfl, rfl, rfl⟩
      · rw [hD0] at hd; cases hd
      · rw [hlow] at he; cases he
      · rw [hD0] at hd; cases hd
  · cases h

end
end Go.Sx
