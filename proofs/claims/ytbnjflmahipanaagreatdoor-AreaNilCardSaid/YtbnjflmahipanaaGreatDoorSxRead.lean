/- Operations that read memory. -/
import Derived.Test.YtbnjflmahipanaaGreatDoorSxOp3
import Derived.Laws.LoneSync
import Derived.Laws.BytesString
namespace Go.Sx
set_option linter.unusedSimpArgs false
set_option linter.unusedVariables false

section
variable {P : Program} {ρ : Env} {σ : Sig} {w : World}

theorem plainKey_or {u : TypeDesc} {k : AV} (hp : plainKey P u k = true) : plainKey0 u k = true ∨ ∃ e b o n, u = .pointer e ∧ k = .ptr b o ∧ tsize P e = some n ∧ n ≠ 0 := by
  unfold plainKey at hp
  split at hp
  · rename_i e b o
    split at hp
    · rename_i n hn
      exact .inr ⟨e, b, o, n, rfl, rfl, hn, fun h0 => by subst h0; cases hp⟩
    · cases hp
  · exact .inl hp

theorem run_checkKey0 {e : Bool} {n : Nat} {t : TypeId} {u : TypeDesc} {k : AV} {x : Value} (hu : P.underlying t = some u) (hp : plainKey0 u k = true) (hk : conc ρ σ k = some x) :
    (Instr.checkKey e (n + 1) t x).run P w = .ok () w := by
  unfold plainKey0 at hp
  split at hp
  · obtain rfl := inv_int hk; simp [Instr.checkKey, run_underlying hu]
  · obtain ⟨rfl, _⟩ := inv_str hk; simp [Instr.checkKey, run_underlying hu]
  · obtain rfl := inv_bool hk; simp [Instr.checkKey, run_underlying hu]
  · cases hp

theorem run_checkKey {e : Bool} {n : Nat} {t : TypeId} {u : TypeDesc} {k : AV} {x : Value} (hu : P.underlying t = some u) (hp : plainKey P u k = true) (hk : conc ρ σ k = some x) :
    (Instr.checkKey e (n + 1) t x).run P w = .ok () w := by
  rcases plainKey_or hp with hp | ⟨e', b, o, n', rfl, rfl, _, _⟩
  · exact run_checkKey0 hu hp hk
  · obtain ⟨en, _, rfl⟩ := inv_ptr hk
    simp [Instr.checkKey, run_underlying hu]

/-- A pointer is found first, or nothing is there. -/
theorem run_findKey_ptr {kt e : TypeId} {n b o : Nat} {x : Value} {m : MapEntry} {ms : List MapEntry} (hu : P.underlying kt = some (.pointer e)) (hz : tsize P e = some n) (hn : n ≠ 0) (hk : conc ρ σ (.ptr b o) = some x) (hm : m.key = x) :
    (Instr.findKey kt x (m :: ms)).run P w = .ok (some (0, m.val)) w := by
  have heq : aeq P 9 kt (.ptr b o) (.ptr b o) = some true := by
    have hn' : Nat.beq n 0 = false := by
      cases h : Nat.beq n 0 with
      | false => rfl
      | true => exact absurd (Nat.eq_of_beq_eq_true h) hn
    show aeq P (8 + 1) kt (.ptr b o) (.ptr b o) = some true
    rw [aeq]
    simp only [hu, Option.bind_some, hz, hn', Bool.false_eq_true, if_false, Nat.beq_refl, if_true]
  have h1 := run_equalIn 9 Op.maxDepth (by simp [Op.maxDepth]) kt _ _ _ heq x x hk hk w
  obtain ⟨en, _, rfl⟩ := inv_ptr hk
  have h2 : Instr.findNow (.pointer e) (.pointer (some ⟨en.blk, en.off + o, none⟩)) (m :: ms) 0 = none := by
    simp [Instr.findNow, Instr.sameNow]
  simp only [Instr.findKey, Sem.run_bind, run_underlying hu, Result.andThen_ok, h2, Instr.findAsking, hm, Op.equal, h1, if_true, Sem.run_pure]

theorem keyEq_ptr {b o : Nat} {k' : AV} {r : Bool} (h : keyEq (.ptr b o) k' = some r) : r = true ∧ k' = .ptr b o := by
  unfold keyEq at h
  split at h <;> try (rename_i heq _ ; cases heq; done)
  all_goals (try (rename_i heq; cases heq; done))
  · rename_i heq
    split at h
    · rename_i hc
      simp only [Bool.and_eq_true] at hc
      obtain ⟨h1, h2⟩ := hc
      have h1 := Nat.eq_of_beq_eq_true h1
      have h2 := Nat.eq_of_beq_eq_true h2
      simp only [Option.some.injEq] at h
      cases heq
      subst h1; subst h2
      exact ⟨h.symm, rfl⟩
    · cases h
  · cases h

theorem sameNow_keyEq {u : TypeDesc} {k k' : AV} {x x' : Value} {r : Bool} (hp : plainKey0 u k = true) (hk : conc ρ σ k = some x) (hk' : conc ρ σ k' = some x') (h : keyEq k k' = some r) :
    Instr.sameNow u x x' = some r := by
  unfold plainKey0 at hp
  unfold keyEq at h
  split at h
  · obtain rfl := inv_int hk; obtain rfl := inv_int hk'
    split at h
    · rename_i hkk
      obtain rfl := kindEq_eq hkk
      simp only [Option.some.injEq] at h
      subst h
      split at hp
      · simp [Instr.sameNow, intEq_eq]
      · rename_i heq; cases heq
      · rename_i heq; cases heq
      · cases hp
    · cases h
  · obtain ⟨rfl, h1⟩ := inv_str hk; obtain ⟨rfl, h2⟩ := inv_str hk'
    simp only [Option.some.injEq] at h
    subst h
    split at hp
    · rename_i heq; cases heq
    · simp [Instr.sameNow, strEq_bytes h1 h2]
    · rename_i heq; cases heq
    · cases hp
  · obtain rfl := inv_bool hk; obtain rfl := inv_bool hk'
    simp only [Option.some.injEq] at h
    subst h
    split at hp
    · rename_i heq; cases heq
    · rename_i heq; cases heq
    · simp [Instr.sameNow]
    · cases hp
  · split at hp <;> (try (rename_i heq; cases heq; done))
    cases hp
  · cases h

theorem findNow_findK {u : TypeDesc} {k : AV} {x : Value} (hp : plainKey0 u k = true) (hk : conc ρ σ k = some x) : ∀ {as : List AEntry} {ms : List MapEntry} {r : Option AV} (i : Nat),
    EntsRel ρ σ as ms → findK k as = some r → ∃ q, Instr.findNow u x ms i = some q ∧ (r = none → q = none) ∧ (∀ v, r = some v → ∃ j y, q = some (j, y) ∧ conc ρ σ v = some y)
  | _, _, r, i, .nil, h => by simp [findK] at h; subst h; exact ⟨none, by simp [Instr.findNow], by simp, by simp⟩
  | a :: as, m :: ms, r, i, .cons ha hr, h => by
    simp only [findK, Option.bind_eq_some_iff] at h
    obtain ⟨b, hb, h⟩ := h
    have h1 := sameNow_keyEq hp hk ha.key hb
    cases b with
    | true =>
      simp only [if_true, Option.some.injEq] at h; subst h
      exact ⟨some (i, m.val), by simp [Instr.findNow, h1], by simp, fun v hv => ⟨i, m.val, rfl, by simp at hv; subst hv; exact ha.val⟩⟩
    | false =>
      simp only [Bool.false_eq_true, if_false] at h
      obtain ⟨q, h2, h3, h4⟩ := findNow_findK hp hk (i + 1) hr h
      exact ⟨q, by simp [Instr.findNow, h1, h2], h3, h4⟩

theorem run_findKey_findK {kt : TypeId} {u : TypeDesc} {k : AV} {x : Value} (hu : P.underlying kt = some u) (hp : plainKey P u k = true) (hk : conc ρ σ k = some x) {as : List AEntry} {ms : List MapEntry} {r : Option AV}
    (hr : EntsRel ρ σ as ms) (h : findK k as = some r) : ∃ q, (Instr.findKey kt x ms).run P w = .ok q w ∧ (r = none → q = none) ∧ (∀ v, r = some v → ∃ j y, q = some (j, y) ∧ conc ρ σ v = some y) := by
  rcases plainKey_or hp with hp | ⟨e', b, o, n', rfl, rfl, hz, hn⟩
  · obtain ⟨q, q1, q2, q3⟩ := findNow_findK hp hk 0 hr h
    exact ⟨q, by simp [Instr.findKey, run_underlying hu, q1], q2, q3⟩
  · cases hr with
    | nil =>
      simp only [findK, Option.some.injEq] at h
      subst h
      exact ⟨none, by simp [Instr.findKey, run_underlying hu, Instr.findNow], fun _ => rfl, fun v hv => by cases hv⟩
    | cons ha hr =>
      simp only [findK, Option.bind_eq_some_iff] at h
      obtain ⟨r', hr', h⟩ := h
      obtain ⟨rfl, hkey⟩ := keyEq_ptr hr'
      simp only [if_true, Option.some.injEq] at h
      subst h
      have hak := ha.key
      rw [hkey, hk] at hak
      refine ⟨_, run_findKey_ptr hu hz hn hk (by simpa using hak.symm), ⟨fun h => (by cases h), fun v hv => ⟨_, _, rfl, ?_⟩⟩⟩
      simp only [Option.some.injEq] at hv
      subst hv
      exact ha.val

theorem bytesL_spec : ∀ {l : List AV} {s : List Nat}, bytesL l = some s → l = s.map (fun c => .int .u8 (.ofNat c)) ∧ Small s := by
  intro l
  induction l with
  | nil => intro s h; simp [bytesL] at h; subst h; exact ⟨rfl, fun c hc => by cases hc⟩
  | cons v l ih =>
    intro s h
    unfold bytesL at h
    split at h
    · rename_i heq; cases heq
    · rename_i m l' heq
      simp only [List.cons.injEq] at heq
      obtain ⟨rfl, rfl⟩ := heq
      split at h
      · rename_i hm
        simp only [Option.bind_eq_some_iff, Option.some.injEq] at h
        obtain ⟨r, hr, rfl⟩ := h
        obtain ⟨h1, h2⟩ := ih hr
        refine ⟨by simp [h1], fun c hc => ?_⟩
        simp at hc
        rcases hc with rfl | hc
        · simpa using hm
        · exact h2 c hc
      · cases h
    · cases h

theorem concL_ints (s : List Nat) : concL ρ σ (s.map (fun c => AV.int .u8 (.ofNat c))) = some ((s.map Int.ofNat).map (Value.int .u8)) := by
  induction s with
  | nil => rfl
  | cons c s ih => simp only [List.map_cons, concL, conc, ih, Option.bind_some]

theorem foldl_bytes : ∀ (s : List Nat) (b : List Nat), (s.map Int.ofNat).foldl (fun r n => r.push (UInt8.ofNat n.toNat)) (bytesOf b) = bytesOf (b ++ s)
  | [], b => by simp
  | c :: s, b => by
    have : (bytesOf b).push (UInt8.ofNat (Int.ofNat c).toNat) = bytesOf (b ++ [c]) := by
      simp [bytesOf, ByteArray.push]
    simp only [List.map_cons, List.foldl_cons, this]
    rw [foldl_bytes s (b ++ [c])]
    simp

/-- The bytes of a row, as a text. -/
theorem run_toString {e : Ent} {cs : List AV} {g : Bool} {el : Option TypeId} (hc : CellsRel ρ σ w e cs g el) {off len : Nat} {l : List AV} {s : List Nat}
    (hl : getMany cs off len = some l) (hs : bytesL l = some s) (cap : Nat) :
    (Conv.bytesToString (.slice (some ⟨e.blk, e.off + off, none⟩) len cap)).run P w = .ok (.string (bytesOf s)) w ∧ Small s := by
  obtain ⟨h1, h2⟩ := bytesL_spec hs
  obtain ⟨xs, h3, h4, h5⟩ := hc.many hl
  rw [h1, concL_ints] at h3
  simp only [Option.some.injEq] at h3
  have h6 := run_loadCells (P := P) e.blk (e.off + off) len xs h4 h5
  rw [← h3] at h6
  rw [run_bytesToString w _ len cap (s.map Int.ofNat) h6]
  have := foldl_bytes s []
  simp only [List.nil_append] at this
  have e0 : bytesOf [] = ByteArray.empty := rfl
  rw [e0] at this
  exact ⟨by rw [this], h2⟩

theorem arrList_get {T : Tr AV} {z : AV} : ∀ {n i : Nat} (j : Nat), (arrList T z i n)[j]? = if j < n then some (arrAt T z (i + j)) else none
  | 0, i, j => by simp [arrList]
  | n + 1, i, 0 => by simp [arrList]
  | n + 1, i, j + 1 => by
    simp only [arrList, List.getElem?_cons_succ, arrList_get j]
    have : i + 1 + j = i + (j + 1) := by omega
    rw [this]
    by_cases h : j < n
    · rw [if_pos h, if_pos (by omega)]
    · rw [if_neg h, if_neg (by omega)]

theorem arrList_length {T : Tr AV} {z : AV} : ∀ {n i : Nat}, (arrList T z i n).length = n
  | 0, _ => rfl
  | n + 1, i => by simp [arrList, arrList_length]

/-- A load from a great row. -/
theorem run_loadArr {e : Ent} {T : Tr AV} {m off : Nat} {z v : AV} {t : TypeId} (ho : ObjRel ρ σ w e (.arr T m z))
    (h : ((isAggT P t).bind fun g => if g then (tsize P t).bind fun n => if Nat.ble (off + n) m then some (AV.agg (arrList T z off n)) else none else if Nat.blt off m then some (arrAt T z off) else none) = some v) :
    ∃ x, (loadVar t ⟨e.blk, e.off + off, none⟩).run P w = .ok x w ∧ conc ρ σ v = some x := by
  simp only [Option.bind_eq_some_iff] at h
  obtain ⟨ag, hag, h⟩ := h
  cases ag with
  | true =>
    simp only [if_true, Option.bind_eq_some_iff] at h
    obtain ⟨n, hn, h⟩ := h
    split at h
    · rename_i hle
      have hle : off + n ≤ m := by simpa using hle
      simp only [Option.some.injEq] at h
      subst h
      have hall : ∀ v ∈ arrList T z off n, (conc ρ σ v).isSome := fun v hv => by
        obtain ⟨j, hj, rfl⟩ := List.mem_iff_getElem.1 hv
        have h1 := arrList_get (T := T) (z := z) (n := n) (i := off) j
        rw [List.getElem?_eq_getElem hj] at h1
        rw [arrList_length] at hj
        rw [if_pos hj] at h1
        simp only [Option.some.injEq] at h1
        obtain ⟨x, _, h2, _⟩ := ho (off + j) (by omega)
        rw [h1, h2]; rfl
      obtain ⟨xs, hxs⟩ := concL_some_of hall
      have hlx := concL_length hxs
      rw [arrList_length] at hlx
      refine ⟨.agg xs.toArray, ?_, by simp [conc, hxs]⟩
      have hcs : ∀ j, j < n → w.cell? ⟨e.blk, e.off + off + j, none⟩ = xs[j]? := fun j hj => by
        have h1 := concL_get hxs j
        rw [arrList_get, if_pos hj] at h1
        simp only [Option.bind_some] at h1
        obtain ⟨x, h2, h3, _⟩ := ho (off + j) (by omega)
        have e1 : e.off + off + j = e.off + (off + j) := by omega
        rw [e1, h2, ← h1, h3]
      have := run_loadCells (P := P) e.blk (e.off + off) n xs hlx hcs
      simp only [loadVar, Sem.run_bind, run_isAgg hag, Result.andThen_ok, if_true, run_sizeOf hn, this, Sem.run_pure]
    · cases h
  | false =>
    simp only [Bool.false_eq_true, if_false] at h
    split at h
    · rename_i hlt
      have hlt : off < m := by simpa using hlt
      simp only [Option.some.injEq] at h
      subst h
      obtain ⟨x, h1, h2, _⟩ := ho off hlt
      refine ⟨x, ?_, h2⟩
      simp only [loadVar, Sem.run_bind, run_isAgg hag, Result.andThen_ok, Bool.false_eq_true, if_false]
      simp [load, Sem.run, h1]
    · cases h

/-- A load from the block of a variable that is only read. -/
theorem run_loadGlob {g off : Nat} {cs : List AV} {arr : Array Value} {ty t : TypeId} {fr : Nat × Nat} {v : AV} (h3 : w.heap[g]? = some (.cells arr ty fr)) (h4 : GlobA ρ cs arr)
    (h : ((isAggT P t).bind fun g => if g then (tsize P t).bind fun n => (getMany cs off n).bind fun l => some (AV.agg l) else cs[off]?) = some v) :
    ∃ z, (loadVar t ⟨g, off, none⟩).run P w = .ok z w ∧ conc ρ σ v = some z := by
  have hcell : ∀ i v, cs[i]? = some v → ∃ x, w.cell? ⟨g, i, none⟩ = some x ∧ conc ρ σ v = some x := fun i v hi => by
    obtain ⟨x, h5, h6⟩ := h4 i v hi
    exact ⟨x, by simp [World.cell?, h3, h5], conc_mono (fun b e hb => by cases hb) _ _ h6⟩
  simp only [Option.bind_eq_some_iff] at h
  obtain ⟨ag, hag, h⟩ := h
  cases ag with
  | true =>
    simp only [if_true, Option.bind_eq_some_iff, Option.some.injEq] at h
    obtain ⟨n, hn, l, hl, rfl⟩ := h
    obtain ⟨hlen, hgm⟩ := getMany_spec hl
    have hall : ∀ v ∈ l, (conc ρ σ v).isSome := fun v hv => by
      obtain ⟨i, hi, rfl⟩ := List.mem_iff_getElem.1 hv
      have h1 := hgm i (by omega)
      rw [List.getElem?_eq_getElem hi] at h1
      obtain ⟨x, _, h2⟩ := hcell _ _ h1.symm
      simp [h2]
    obtain ⟨xs, hxs⟩ := concL_some_of hall
    have hlx := concL_length hxs
    have hcs : ∀ j, j < n → w.cell? ⟨g, off + j, none⟩ = xs[j]? := fun j hj => by
      have h1 := concL_get hxs j
      have h2 := hgm j hj
      have hj' : j < l.length := by omega
      rw [List.getElem?_eq_getElem hj'] at h1 h2
      obtain ⟨x, h5, h6⟩ := hcell _ _ h2.symm
      simp only [Option.bind_some] at h1
      rw [h5, ← h1, h6]
    refine ⟨.agg xs.toArray, ?_, by simp [conc, hxs]⟩
    have := run_loadCells (P := P) g off n xs (by omega) hcs
    simp only [loadVar, Sem.run_bind, run_isAgg hag, Result.andThen_ok, if_true, run_sizeOf hn, this, Sem.run_pure]
  | false =>
    simp only [Bool.false_eq_true, if_false] at h
    obtain ⟨x, h5, h6⟩ := hcell _ _ h
    refine ⟨x, ?_, h6⟩
    simp only [loadVar, Sem.run_bind, run_isAgg hag, Result.andThen_ok, Bool.false_eq_true, if_false]
    simp [load, Sem.run, h5]

/-- Two pointers into two blocks are different. -/
theorem run_sameApart {hp : Nat → Option AObj} {b1 b2 off1 off2 : Nat} {e1 e2 : Ent} (hh : ∀ b ob, hp b = some ob → ∃ e, σ b = some e ∧ ObjRel ρ σ w e ob)
    (hsep : ∀ b b' o o' e e', hp b = some o → hp b' = some o' → σ b = some e → σ b' = some e' → e.blk = e'.blk → b = b' ∨ (o.kin = some b' ∧ o'.kin = some b)) (hap : ptrApart hp b1 off1 b2 = true) (he1 : σ b1 = some e1) (he2 : σ b2 = some e2) :
    (sameAddr ⟨e1.blk, e1.off + off1, none⟩ ⟨e2.blk, e2.off + off2, none⟩).run P w = .ok false w := by
  unfold ptrApart at hap
  split at hap
  · rename_i cs1 g1 t1 cs2 g2 t2 ho1 ho2
    simp only [Bool.and_eq_true, Bool.not_eq_true', Nat.blt_eq] at hap
    obtain ⟨⟨hne, hl1⟩, hl2⟩ := hap
    have hne : b1 ≠ b2 := fun h => by subst h; simp at hne
    obtain ⟨e1', he1', hr1⟩ := hh b1 _ ho1
    rw [he1] at he1'
    simp only [Option.some.injEq] at he1'
    subst he1'
    obtain ⟨e2', he2', hr2⟩ := hh b2 _ ho2
    rw [he2] at he2'
    simp only [Option.some.injEq] at he2'
    subst he2'
    obtain ⟨k1, s1, _, f1⟩ := CellsRel.elem hr1 t1 rfl
    obtain ⟨k2, s2, _, f2⟩ := CellsRel.elem hr2 t2 rfl
    have hblk : e1.blk ≠ e2.blk := fun heq => by
      rcases hsep b1 b2 _ _ e1 e2 ho1 ho2 he1 he2 heq with h | h
      · exact hne h
      · cases h.1
    obtain ⟨x1, p1, _, q1⟩ := CellsRel.cell hr1 off1 _ (List.getElem?_eq_getElem hl1)
    have pos : ∀ {a : Addr} {x : Value} {t : TypeId} {k : Nat}, w.cell? a = some x → w.shape? a.block = some (t, k) → k ≠ 0 := by
      intro a x t k hc hs
      obtain ⟨_, n2, z3, z4, _⟩ := World.shape?_of_cell? hc
      rw [hs] at z3
      simp at z3
      omega
    have hk1 : k1 ≠ 0 := pos p1 s1
    obtain ⟨x2, p2, _, q2⟩ := CellsRel.cell hr2 0 _ (List.getElem?_eq_getElem hl2)
    have hk2 : k2 ≠ 0 := pos p2 s2
    have hnb : (e1.blk == e2.blk) = false := by simpa using hblk
    cases k1 with
    | zero => exact absurd rfl hk1
    | succ k1 =>
      cases k2 with
      | zero => exact absurd rfl hk2
      | succ k2 => simp [sameAddr, hnb, frozen, noView, viewAt, mayBeOne, stringish, shape, Sem.run, s1, s2, q1, f1, f2]
  · cases hap

set_option maxHeartbeats 2000000 in
theorem run_aread {ev : Operand → Option AV} {ev' : Operand → Value} {hp : Nat → Option AObj} {o : Oper} {v : AV} (he : ER ρ σ ev ev')
    (hh : ∀ b ob, hp b = some ob → ∃ e, σ b = some e ∧ ObjRel ρ σ w e ob) (hgl : ∀ g cs, ρ.G g = some cs → ∃ a t fr, w.heap[g]? = some (.cells a t fr) ∧ GlobA ρ cs a)
    (hsep : ∀ b b' o o' e e', hp b = some o → hp b' = some o' → σ b = some e → σ b' = some e' → e.blk = e'.blk → b = b' ∨ (o.kin = some b' ∧ o'.kin = some b)) (h : aread P ρ.G ev hp o = some v) :
    ∃ z, (execOp ev' o).run P w = .ok (.value z) w ∧ conc ρ σ v = some z := by
  obtain ⟨dst, op, type, pos, after, guard⟩ := o
  cases op <;> simp only [aread] at h <;> try (cases h; done)
  case load t x =>
    simp only [Option.bind_eq_some_iff] at h
    obtain ⟨a, ha, h⟩ := h
    split at h
    · rename_i b off
      simp only [Option.bind_eq_some_iff] at h
      obtain ⟨ob, hob, h⟩ := h
      split at h
      · obtain ⟨e, h1, h2⟩ := inv_ptr (he _ _ ha)
        obtain ⟨e', h3, h4⟩ := hh b _ hob
        rw [h1] at h3
        simp only [Option.some.injEq] at h3
        subst h3
        obtain ⟨z, hz, hv⟩ := run_loadVar (P := P) h4 h
        refine ⟨z, ?_, hv⟩
        simp only [execOp, h2, Instr.loadAt, Instr.sureAddr, Sem.run_bind, Sem.run_pure, Result.andThen_ok, hz]
      · obtain ⟨e, h1, h2⟩ := inv_ptr (he _ _ ha)
        obtain ⟨e', h3, h4⟩ := hh b _ hob
        rw [h1] at h3
        simp only [Option.some.injEq] at h3
        subst h3
        obtain ⟨z, hz, hv⟩ := run_loadArr (P := P) h4 h
        refine ⟨z, ?_, hv⟩
        simp only [execOp, h2, Instr.loadAt, Instr.sureAddr, Sem.run_bind, Sem.run_pure, Result.andThen_ok, hz]
      · cases h
    · rename_i g off
      simp only [Option.bind_eq_some_iff] at h
      obtain ⟨cs, hcs, h⟩ := h
      have h2 := inv_gptr (he _ _ ha)
      obtain ⟨arr, ty, fr, h3, h4⟩ := hgl g cs hcs
      obtain ⟨z, hz, hv⟩ := run_loadGlob (P := P) (σ := σ) h3 h4 (by simpa only [Option.bind_eq_some_iff] using h)
      refine ⟨z, ?_, hv⟩
      simp only [execOp, h2, Instr.loadAt, Instr.sureAddr, Sem.run_bind, Sem.run_pure, Result.andThen_ok, hz]
    · cases h
  case binOp op t x y yt =>
    simp only [Option.bind_eq_some_iff] at h
    obtain ⟨a, ha, b, hb, h⟩ := h
    have plain : abin P op t x y a b = some v → ∃ z, (execOp ev' ⟨dst, .binOp op t x y yt, type, pos, after, guard⟩).run P w = .ok (.value z) w ∧ conc ρ σ v = some z := by
      intro h
      obtain ⟨z, hz, hv⟩ := run_abin (x := x) (y := y) h (he _ _ ha) (he _ _ hb) w
      refine ⟨z, ?_, hv⟩
      simp only [execOp]
      rw [Sem.run_bind, hz]
      rfl
    split at h
    · rename_i b1 o1 b2 o2
      split at h
      · exact plain h
      · rename_i hne
        simp only [Option.bind_eq_some_iff] at h
        obtain ⟨u, hu, h⟩ := h
        split at h
        · rename_i e
          simp only [Option.bind_eq_some_iff] at h
          obtain ⟨n, hn, h⟩ := h
          split at h
          · cases h
          · rename_i hn0
            have hn0 : n ≠ 0 := fun h0 => hn0 (by subst h0; rfl)
            split at h
            · rename_i hap
              obtain ⟨e1, he1, hx1⟩ := inv_ptr (he _ _ ha)
              obtain ⟨e2, he2, hx2⟩ := inv_ptr (he _ _ hb)
              have hfalse := run_sameApart (P := P) hh hsep hap he1 he2 (off2 := o2)
              have heqd : ∀ d, (Op.equalIn (d + 1) t (.pointer (some ⟨e1.blk, e1.off + o1, none⟩)) (.pointer (some ⟨e2.blk, e2.off + o2, none⟩))).run P w = .ok false w := by
                intro d
                simp only [Op.equalIn, Sem.run_bind, run_underlying hu, Result.andThen_ok, run_sizeOf hn]
                simp [hn0, hfalse]
              have heq : (Op.equal t (.pointer (some ⟨e1.blk, e1.off + o1, none⟩)) (.pointer (some ⟨e2.blk, e2.off + o2, none⟩))).run P w = .ok false w := heqd 9999
              split at h
              · simp only [Option.some.injEq] at h; subst h
                refine ⟨.bool false, ?_, by simp [conc]⟩
                simp only [execOp, hx1, hx2]
                rw [Sem.run_bind]
                have e0 : (do eqGuard .eql t x y (.pointer (some ⟨e1.blk, e1.off + o1, none⟩)) (.pointer (some ⟨e2.blk, e2.off + o2, none⟩)); binOp .eql t (.pointer (some ⟨e1.blk, e1.off + o1, none⟩)) (.pointer (some ⟨e2.blk, e2.off + o2, none⟩)) : Sem Value).run P w = .ok (.bool false) w := by
                  show (do pure (.bool (← Op.equal t (.pointer (some ⟨e1.blk, e1.off + o1, none⟩)) (.pointer (some ⟨e2.blk, e2.off + o2, none⟩)))) : Sem Value).run P w = _
                  simp only [Sem.run_bind, heq, Result.andThen_ok, Sem.run_pure]
                rw [e0]
                rfl
              · simp only [Option.some.injEq] at h; subst h
                refine ⟨.bool true, ?_, by simp [conc]⟩
                simp only [execOp, hx1, hx2]
                rw [Sem.run_bind]
                have e0 : (do eqGuard .neq t x y (.pointer (some ⟨e1.blk, e1.off + o1, none⟩)) (.pointer (some ⟨e2.blk, e2.off + o2, none⟩)); binOp .neq t (.pointer (some ⟨e1.blk, e1.off + o1, none⟩)) (.pointer (some ⟨e2.blk, e2.off + o2, none⟩)) : Sem Value).run P w = .ok (.bool true) w := by
                  show (do pure (.bool (!(← Op.equal t (.pointer (some ⟨e1.blk, e1.off + o1, none⟩)) (.pointer (some ⟨e2.blk, e2.off + o2, none⟩))))) : Sem Value).run P w = _
                  simp only [Sem.run_bind, heq, Result.andThen_ok, Sem.run_pure, Bool.not_false]
                rw [e0]
                rfl
              · cases h
            · cases h
        · cases h
    · exact plain h
  case lookup t x i ok =>
    simp only [Option.bind_eq_some_iff] at h
    obtain ⟨u, hu, h⟩ := h
    split at h
    · rename_i kt et
      simp only [Option.bind_eq_some_iff] at h
      obtain ⟨ku, hku, a, ha, k, hk, h⟩ := h
      split at h
      · rename_i hpk
        simp only [Option.bind_eq_some_iff] at h
        obtain ⟨es, hes, r, hr, h⟩ := h
        have hkc := he _ _ hk
        have hx := he _ _ ha
        split at hes
        · simp only [Option.some.injEq] at hes; subst hes
          simp only [findK, Option.some.injEq] at hr; subst hr
          simp only [Option.bind_eq_some_iff, Option.some.injEq] at h
          obtain ⟨z, hz, rfl⟩ := h
          obtain ⟨y, hy, cy⟩ := run_zeroValue (ρ := ρ) (σ := σ) hz w
          have h4 : (Instr.findKey kt (ev' i) []).run P w = .ok none w := by
            simp [Instr.findKey, run_underlying hku, Instr.findNow]
          refine ⟨if ok then .tuple #[y, .bool false] else y, ?_, ?_⟩
          · simp only [execOp, inv_nilm hx, Instr.lookup, Sem.run_bind, run_underlying hu, Result.andThen_ok, Sem.run_pure, run_checkKey hku hpk hkc, h4, hy]
          · cases ok <;> simp [conc, concL, cy]
        · rename_i b
          simp only [Option.bind_eq_some_iff] at hes
          obtain ⟨ob, hob, hes⟩ := hes
          split at hes
          · simp only [Option.some.injEq] at hes; subst hes
            obtain ⟨e, h1, h2⟩ := inv_map hx
            obtain ⟨e', h3, h4⟩ := hh b _ hob
            rw [h1] at h3
            simp only [Option.some.injEq] at h3
            subst h3
            obtain ⟨ms, h5, h6⟩ := h4
            have h7 : ∀ clock, w.heap[e.blk]? = some (.map ms clock) → (getObj e.blk).run P w = .ok (.map ms clock) w := fun clock h => by simp [getObj, Sem.run, h]
            obtain ⟨q, q4, q2, q3⟩ := run_findKey_findK (w := w) hku hpk hkc h6 hr
            split at h
            · rename_i wv
              simp only [Option.some.injEq] at h; subst h
              obtain ⟨j, y, rfl, hy⟩ := q3 _ rfl
              refine ⟨if ok then .tuple #[y, .bool true] else y, ?_, ?_⟩
              · simp only [execOp, h2, Instr.lookup, Sem.run_bind, run_underlying hu, Result.andThen_ok, h7 _ h5, Sem.run_pure, run_checkKey hku hpk hkc, q4]
              · cases ok <;> simp [conc, concL, hy]
            · simp only [Option.bind_eq_some_iff, Option.some.injEq] at h
              obtain ⟨z, hz, rfl⟩ := h
              obtain ⟨y, hy, cy⟩ := run_zeroValue (ρ := ρ) (σ := σ) hz w
              obtain rfl := q2 rfl
              refine ⟨if ok then .tuple #[y, .bool false] else y, ?_, ?_⟩
              · simp only [execOp, h2, Instr.lookup, Sem.run_bind, run_underlying hu, Result.andThen_ok, h7 _ h5, Sem.run_pure, run_checkKey hku hpk hkc, q4, hy]
              · cases ok <;> simp [conc, concL, cy]
          · cases hes
        · cases hes
      · cases h
    · cases h
  case convert s d x =>
    simp only [Option.bind_eq_some_iff] at h
    obtain ⟨us, hus, ud, hud, a, ha, h⟩ := h
    have hx := he _ _ ha
    split at h
    · rename_i t b off
      simp only [Option.bind_eq_some_iff] at h
      obtain ⟨n, hn, h⟩ := h
      split at h
      · cases h
      · rename_i hn0
        have hn0 : n ≠ 0 := by simpa using hn0
        simp only [Option.bind_eq_some_iff] at h
        obtain ⟨ob, hob, h⟩ := h
        split at h
        · split at h
          · rename_i cs _ _ _ hlt
            have hlt : off < cs.length := by simpa using hlt
            simp only [Option.some.injEq] at h; subst h
            obtain ⟨e, h1, h2⟩ := inv_ptr hx
            obtain ⟨e', h3, h4⟩ := hh b _ hob
            rw [h1] at h3
            simp only [Option.some.injEq] at h3
            subst h3
            obtain ⟨c, hc, _, _⟩ := h4.cell off _ (List.getElem?_eq_getElem hlt)
            refine ⟨_, ?_, hx⟩
            have h6 : (P.info? t).map (fun i => decide (i.size = 0)) = some false := by
              unfold tsize at hn
              simp only [Option.map_eq_some_iff] at hn
              obtain ⟨i, hi, rfl⟩ := hn
              simp [hi, hn0]
            have h7 := run_convert_to_unsafe (P := P) (src := s) (dst := d) (t := t) hus hud h6 hc
            simp only [execOp, h2, Sem.run_bind, h7, Result.andThen_ok, Sem.run_pure]
          · cases h
        · cases h
    · simp only [Option.some.injEq] at h; subst h
      refine ⟨_, ?_, hx⟩
      simp [execOp, inv_nilp hx, convert, run_underlying hus, run_underlying hud, Conv.unsafePointer]
    · simp only [Option.some.injEq] at h; subst h
      refine ⟨_, ?_, hx⟩
      simp [execOp, inv_nilp hx, convert, run_underlying hus, run_underlying hud, Conv.unsafePointer]
    · rename_i u b off
      simp only [Option.bind_eq_some_iff] at h
      obtain ⟨ob, hob, h⟩ := h
      split at h
      · rename_i cs k t
        split at h
        · rename_i hc
          simp only [Bool.and_eq_true] at hc
          obtain ⟨c1, c2⟩ := hc
          obtain ⟨n, hn⟩ := Option.isSome_iff_exists.1 c1
          simp only [Option.some.injEq] at h; subst h
          obtain ⟨e, h1, h2⟩ := inv_ptr hx
          obtain ⟨e', h3, h4⟩ := hh b _ hob
          rw [h1] at h3
          simp only [Option.some.injEq] at h3
          subst h3
          obtain ⟨cc, q1, q2, _⟩ := h4.elem t rfl
          obtain ⟨q3, rfl⟩ := q2 rfl
          refine ⟨_, ?_, hx⟩
          rw [h2]
          have q4 : liesAt P P.depth t (cs.length / P.cellsOf t) (e.off + off) u 1 = true := by rw [q3]; simpa using c2
          simp [execOp, h2, convert, run_underlying hus, run_underlying hud, Conv.unsafePointer, Conv.seenAt, viewAt, q1, run_sizeOf hn, variablesAt, q4]
        · cases h
      · cases h
    · rename_i e
      simp only [Option.bind_eq_some_iff] at h
      obtain ⟨ue, hue, h⟩ := h
      split at h
      · simp only [Option.some.injEq] at h; subst h
        refine ⟨.string .empty, ?_, by simp [conc]; rfl⟩
        simp only [execOp, inv_nils hx, Sem.run_bind, run_convert_bytes_string w s d e none 0 0 hus hue hud]
        rfl
      · cases h
    · rename_i e b off len cap
      simp only [Option.bind_eq_some_iff] at h
      obtain ⟨ue, hue, h⟩ := h
      split at h
      · simp only [Option.bind_eq_some_iff] at h
        obtain ⟨ob, hob, h⟩ := h
        split at h
        · simp only [Option.bind_eq_some_iff, Option.some.injEq] at h
          obtain ⟨l, hl, t, ht, rfl⟩ := h
          obtain ⟨en, h1, h2⟩ := inv_slice hx
          obtain ⟨e', h3, h4⟩ := hh b _ hob
          rw [h1] at h3
          simp only [Option.some.injEq] at h3
          subst h3
          obtain ⟨h5, h6⟩ := run_toString (P := P) h4 hl ht cap
          refine ⟨.string (bytesOf t), ?_, by simp only [conc]; rw [if_pos (small_all h6)]⟩
          simp only [execOp, h2, Sem.run_bind, run_convert_bytes_string w s d e _ len cap hus hue hud, h5, Result.andThen_ok, Sem.run_pure]
        · cases h
      · cases h
    · rename_i e b skip len esz
      simp only [Option.bind_eq_some_iff] at h
      obtain ⟨ue, hue, h⟩ := h
      split at h
      · split at h
        · rename_i hes
          have hes := Nat.eq_of_beq_eq_true hes
          subst hes
          simp only [Option.bind_eq_some_iff] at h
          obtain ⟨ob, hob, h⟩ := h
          split at h
          · simp only [Option.bind_eq_some_iff, Option.some.injEq] at h
            obtain ⟨l, hl, t, ht, rfl⟩ := h
            obtain ⟨en, h1, hcap, hesz, h2⟩ := inv_gslice hx
            obtain ⟨e', h3, h4⟩ := hh b _ hob
            rw [h1] at h3
            simp only [Option.some.injEq] at h3
            subst h3
            obtain ⟨h5, h6⟩ := run_toString (P := P) h4 hl ht (en.cap - skip)
            refine ⟨.string (bytesOf t), ?_, by simp only [conc]; rw [if_pos (small_all h6)]⟩
            rw [Nat.mul_one] at h2
            simp only [execOp, h2, Sem.run_bind, run_convert_bytes_string w s d e _ len _ hus hue hud, h5, Result.andThen_ok, Sem.run_pure]
          · cases h
        · cases h
      · cases h
    · cases h
  case call c =>
    obtain ⟨callee, args, argTypes⟩ := c
    cases callee <;> try (cases h; done)
    rename_i bi
    cases bi <;> try (cases h; done)
    · simp only at h
      split at h
      · rename_i x hx0
        have hx0 : args = #[x] := by apply Array.ext'; simpa using hx0
        subst hx0
        simp only [Option.bind_eq_some_iff] at h
        obtain ⟨t, ht, u, hu, a, ha, h⟩ := h
        have hx := he _ _ ha
        have key : ∀ n : Nat, (Builtin.len_ argTypes type #[ev' x]).run P w = .ok (goInt n) w → v = .int .i64 (.ofNat n) →
            ∃ z, (execOp ev' ⟨dst, .call ⟨.builtin .len, #[x], argTypes⟩, type, pos, after, guard⟩).run P w = .ok (.value z) w ∧ conc ρ σ v = some z := by
          intro n hn hv
          subst hv
          refine ⟨goInt n, ?_, by simp [conc, goInt]⟩
          simp only [execOp, resolve, invoke, builtin, Sem.run_bind, Sem.run_pure, Result.andThen_ok, List.map_toArray, List.map_cons, List.map_nil, hn]
        split at h
        · simp only [Option.some.injEq] at h
          exact key 0 (by simp [Builtin.len_, ht, run_underlying hu, inv_nilm hx]) (by rw [← h]; rfl)
        · rename_i b
          simp only [Option.bind_eq_some_iff] at h
          obtain ⟨ob, hob, h⟩ := h
          split at h
          · rename_i es clock
            simp only [Option.some.injEq] at h
            obtain ⟨e, h1, h2⟩ := inv_map hx
            obtain ⟨e', h3, h4⟩ := hh b _ hob
            rw [h1] at h3
            simp only [Option.some.injEq] at h3
            subst h3
            obtain ⟨ms, h5, h6⟩ := h4
            have h7 : (getObj e.blk).run P w = .ok (.map ms clock) w := by simp [getObj, Sem.run, h5]
            have h8 : ∀ {as : List AEntry} {ms : List MapEntry}, EntsRel ρ σ as ms → as.length = ms.length := by
              intro as ms h
              induction h with
              | nil => rfl
              | cons _ _ ih => simp [ih]
            have h9 := h8 h6
            refine key es.length ?_ h.symm
            simp [Builtin.len_, ht, run_underlying hu, h2, h7, h9]
          · cases h
        · cases h
      · cases h

end
end Go.Sx
