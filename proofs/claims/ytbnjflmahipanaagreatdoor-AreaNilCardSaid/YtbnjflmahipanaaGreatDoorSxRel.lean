/- What a numbered block is in a world of the model: the relation, and what keeps it. -/
import Derived.Test.YtbnjflmahipanaaGreatDoorSxRun
import Derived.Laws.World
import Derived.Laws.Sem
import Derived.DefersIn
namespace Go.Sx
set_option linter.unusedSimpArgs false
set_option linter.unusedVariables false

/-! ### Tries -/
namespace Tr
variable {α : Type}

theorem get_one : ∀ (f k : Nat) (v : α) (t : Tr α), one f k v = some t → ∀ k', t.get k' = if k' = k then some v else none
  | 0, _, _, _, h, _ => by simp [one] at h
  | f + 1, k, v, t, h, k' => by
    unfold one at h
    by_cases h0 : k = 0
    · subst h0
      simp at h
      subst h
      by_cases h1 : k' = 0
      · subst h1; simp [get]
      · simp [get, h1]
    · rw [if_neg (by simpa using h0)] at h
      by_cases h1 : k % 2 = 1
      · rw [if_pos (by simpa using h1)] at h
        cases h2 : one f (k / 2) v with
        | none => rw [h2] at h; simp at h
        | some t' =>
          rw [h2] at h
          simp at h
          subst h
          have ih := get_one f (k / 2) v t' h2
          by_cases h3 : k' = 0
          · subst h3; simp [get, Ne.symm h0]
          · by_cases h4 : k' % 2 = 1
            · simp only [get, ih]
              simp [h3, h4]
              by_cases h5 : k' = k
              · simp [h5]
              · rw [if_neg (by omega), if_neg h5]
            · simp [get, h3, h4]
              intro h5; omega
      · rw [if_neg (by simpa using h1)] at h
        cases h2 : one f (k / 2 - 1) v with
        | none => rw [h2] at h; simp at h
        | some t' =>
          rw [h2] at h
          simp at h
          subst h
          have ih := get_one f (k / 2 - 1) v t' h2
          by_cases h3 : k' = 0
          · subst h3; simp [get, Ne.symm h0]
          · by_cases h4 : k' % 2 = 1
            · simp [get, h3, h4]
              intro h5; omega
            · simp only [get, ih]
              simp [h3, h4]
              by_cases h5 : k' = k
              · simp [h5]
              · rw [if_neg (by omega), if_neg h5]

theorem get_set : ∀ (t : Tr α) (k : Nat) (v : α) (t' : Tr α), t.set k v = some t' → ∀ k', t'.get k' = if k' = k then some v else t.get k'
  | nil, k, v, t', h, k' => by
    rw [get_one 60 k v t' h k']
    simp [get]
  | node u l r, k, v, t', h, k' => by
    unfold set at h
    by_cases h0 : k = 0
    · subst h0
      simp at h
      subst h
      by_cases h1 : k' = 0
      · subst h1; simp [get]
      · simp [get, h1]
    · rw [if_neg (by simpa using h0)] at h
      by_cases h1 : k % 2 = 1
      · rw [if_pos (by simpa using h1)] at h
        cases h2 : l.set (k / 2) v with
        | none => rw [h2] at h; simp at h
        | some l' =>
          rw [h2] at h
          simp at h
          subst h
          have ih := get_set l (k / 2) v l' h2
          by_cases h3 : k' = 0
          · subst h3; simp [get, Ne.symm h0]
          · by_cases h4 : k' % 2 = 1
            · simp only [get, ih]
              simp [h3, h4]
              by_cases h5 : k' = k
              · simp [h5]
              · rw [if_neg (by omega), if_neg h5]
            · simp [get, h3, h4]
              intro h5; omega
      · rw [if_neg (by simpa using h1)] at h
        cases h2 : r.set (k / 2 - 1) v with
        | none => rw [h2] at h; simp at h
        | some r' =>
          rw [h2] at h
          simp at h
          subst h
          have ih := get_set r (k / 2 - 1) v r' h2
          by_cases h3 : k' = 0
          · subst h3; simp [get, Ne.symm h0]
          · by_cases h4 : k' % 2 = 1
            · simp [get, h3, h4]
              intro h5; omega
            · simp only [get, ih]
              simp [h3, h4]
              by_cases h5 : k' = k
              · simp [h5]
              · rw [if_neg (by omega), if_neg h5]

theorem get_del : ∀ (t : Tr α) (k k' : Nat), (t.del k).get k' = if k' = k then none else t.get k'
  | nil, k, k' => by simp [del, get]
  | node u l r, k, k' => by
    unfold del
    by_cases h0 : k = 0
    · subst h0
      by_cases h1 : k' = 0
      · subst h1; simp [get]
      · simp [get, h1]
    · rw [if_neg (by simpa using h0)]
      by_cases h1 : k % 2 = 1
      · rw [if_pos (by simpa using h1)]
        by_cases h3 : k' = 0
        · subst h3; simp [get, Ne.symm h0]
        · by_cases h4 : k' % 2 = 1
          · simp only [get, get_del l]
            simp [h3, h4]
            by_cases h5 : k' = k
            · simp [h5]
            · rw [if_neg (by omega), if_neg h5]
          · simp [get, h3, h4]
            intro h5; omega
      · rw [if_neg (by simpa using h1)]
        by_cases h3 : k' = 0
        · subst h3; simp [get, Ne.symm h0]
        · by_cases h4 : k' % 2 = 1
          · simp [get, h3, h4]
            intro h5; omega
          · simp only [get, get_del r]
            simp [h3, h4]
            by_cases h5 : k' = k
            · simp [h5]
            · rw [if_neg (by omega), if_neg h5]

theorem get_nil (k : Nat) : (nil : Tr α).get k = none := rfl
end Tr

/-! ### Values -/

/-- What is not known, and the blocks of variables that are only read. -/
structure Env where
  val : Nat → Value
  G : Nat → Option (List AV)

instance : CoeFun Env (fun _ => Nat → Value) := ⟨Env.val⟩

structure Ent where
  blk : Nat
  off : Nat
  cap : Nat
  esz : Nat

abbrev Sig := Nat → Option Ent

def bytesOf (s : List Nat) : ByteArray := ⟨(s.map UInt8.ofNat).toArray⟩

/-- A value of one cell. -/
def oneV : Value → Bool
  | .agg _ | .tuple _ => false
  | _ => true

mutual
def conc (ρ : Env) (σ : Sig) : AV → Option Value
  | .bool b => some (.bool b)
  | .int k n => some (.int k n)
  | .str s => if s.all (fun c => decide (c < 256)) then some (.string (bytesOf s)) else none
  | .nilp => some (.pointer none)
  | .ptr b off => (σ b).bind fun e => some (.pointer (some ⟨e.blk, e.off + off, none⟩))
  | .nils => some (.slice none 0 0)
  | .slice b off len cap => (σ b).bind fun e => some (.slice (some ⟨e.blk, e.off + off, none⟩) len cap)
  | .gslice b skip len esz => (σ b).bind fun e => if skip + len ≤ e.cap ∧ e.esz = esz then some (.slice (some ⟨e.blk, e.off + skip * esz, none⟩) len (e.cap - skip)) else none
  | .nilm => some (.map none)
  | .map b => (σ b).bind fun e => some (.map (some e.blk))
  | .nilf => some .nilFunc
  | .func fn first cap => (concL ρ σ first).bind fun f => (concL ρ σ cap).bind fun c => some (.func fn f.toArray c.toArray)
  | .nili => some .nilIface
  | .iface t v => (conc ρ σ v).bind fun x => some (.iface t x)
  | .agg cs => (concL ρ σ cs).bind fun l => some (.agg l.toArray)
  | .tuple cs => (concL ρ σ cs).bind fun l => some (.tuple l.toArray)
  | .opq k => if oneV (ρ k) then some (ρ k) else none
  | .ops k lo hi => match ρ k with
    | .string s => if lo ≤ s.size ∧ s.size ≤ hi then some (.string s) else none
    | _ => none
  | .opl k lo hi => match ρ k with
    | .string s => if lo ≤ s.size ∧ s.size ≤ hi then some (.int .i64 (.ofNat s.size)) else none
    | _ => none
  | .gptr g off => some (.pointer (some ⟨g, off, none⟩))
  | .yld b => (σ b).bind fun e => some (.func (.yield e.blk) #[] #[])
  | .eslice b s0 s1 esz => (σ b).bind fun e => if s1 ≤ e.cap ∧ e.esz = esz then some (.slice (some ⟨e.blk, if e.cap = s1 then e.off + s0 * esz else e.off + s1 * esz, none⟩) 0 (e.cap - s1)) else none
def concL (ρ : Env) (σ : Sig) : List AV → Option (List Value)
  | [] => some []
  | v :: vs => (conc ρ σ v).bind fun x => (concL ρ σ vs).bind fun xs => some (x :: xs)
end

/-- One more than the other. -/
def Sig.le (σ σ' : Sig) : Prop := ∀ b e, σ b = some e → σ' b = some e

theorem Sig.le.refl (σ : Sig) : σ.le σ := fun _ _ h => h
theorem Sig.le.trans {σ σ' σ'' : Sig} (h : σ.le σ') (h' : σ'.le σ'') : σ.le σ'' := fun b e hb => h' b e (h b e hb)

variable {ρ : Env}

mutual
theorem conc_mono {σ σ' : Sig} (h : σ.le σ') : ∀ (v : AV) (x : Value), conc ρ σ v = some x → conc ρ σ' v = some x
  | .bool b, x, hx => by simpa [conc] using hx
  | .int k n, x, hx => by simpa [conc] using hx
  | .str s, x, hx => by simp only [conc] at hx ⊢; exact hx
  | .nilp, x, hx => by simpa [conc] using hx
  | .ptr b off, x, hx => by
    simp only [conc, Option.bind_eq_some_iff] at hx ⊢
    obtain ⟨e, he, hx⟩ := hx
    exact ⟨e, h b e he, hx⟩
  | .nils, x, hx => by simpa [conc] using hx
  | .slice b off len cap, x, hx => by
    simp only [conc, Option.bind_eq_some_iff] at hx ⊢
    obtain ⟨e, he, hx⟩ := hx
    exact ⟨e, h b e he, hx⟩
  | .gslice b skip len esz, x, hx => by
    simp only [conc, Option.bind_eq_some_iff] at hx ⊢
    obtain ⟨e, he, hx⟩ := hx
    exact ⟨e, h b e he, hx⟩
  | .nilm, x, hx => by simpa [conc] using hx
  | .map b, x, hx => by
    simp only [conc, Option.bind_eq_some_iff] at hx ⊢
    obtain ⟨e, he, hx⟩ := hx
    exact ⟨e, h b e he, hx⟩
  | .nilf, x, hx => by simpa [conc] using hx
  | .func fn first cap, x, hx => by
    simp only [conc, Option.bind_eq_some_iff] at hx ⊢
    obtain ⟨f, hf, c, hc, hx⟩ := hx
    exact ⟨f, concL_mono h first f hf, c, concL_mono h cap c hc, hx⟩
  | .nili, x, hx => by simpa [conc] using hx
  | .iface t v, x, hx => by
    simp only [conc, Option.bind_eq_some_iff] at hx ⊢
    obtain ⟨y, hy, hx⟩ := hx
    exact ⟨y, conc_mono h v y hy, hx⟩
  | .agg cs, x, hx => by
    simp only [conc, Option.bind_eq_some_iff] at hx ⊢
    obtain ⟨y, hy, hx⟩ := hx
    exact ⟨y, concL_mono h cs y hy, hx⟩
  | .tuple cs, x, hx => by
    simp only [conc, Option.bind_eq_some_iff] at hx ⊢
    obtain ⟨y, hy, hx⟩ := hx
    exact ⟨y, concL_mono h cs y hy, hx⟩
  | .opq k, x, hx => by simp only [conc] at hx ⊢; exact hx
  | .ops k lo hi, x, hx => by simp only [conc] at hx ⊢; exact hx
  | .opl k lo hi, x, hx => by simp only [conc] at hx ⊢; exact hx
  | .gptr g off, x, hx => by simpa [conc] using hx
  | .yld b, x, hx => by
    simp only [conc, Option.bind_eq_some_iff] at hx ⊢
    obtain ⟨e, he, hx⟩ := hx
    exact ⟨e, h b e he, hx⟩
  | .eslice b s0 s1 esz, x, hx => by
    simp only [conc, Option.bind_eq_some_iff] at hx ⊢
    obtain ⟨e, he, hx⟩ := hx
    exact ⟨e, h b e he, hx⟩
theorem concL_mono {σ σ' : Sig} (h : σ.le σ') : ∀ (v : List AV) (x : List Value), concL ρ σ v = some x → concL ρ σ' v = some x
  | [], x, hx => by simpa [concL] using hx
  | v :: vs, x, hx => by
    simp only [concL, Option.bind_eq_some_iff] at hx ⊢
    obtain ⟨y, hy, ys, hys, hx⟩ := hx
    exact ⟨y, conc_mono h v y hy, ys, concL_mono h vs ys hys, hx⟩
end

/-- Element for element. -/
theorem concL_get {σ : Sig} : ∀ {l : List AV} {xs : List Value}, concL ρ σ l = some xs → ∀ (i : Nat), (l[i]?).bind (conc ρ σ) = xs[i]?
  | [], xs, h, i => by simp [concL] at h; subst h; simp
  | v :: vs, xs, h, i => by
    simp only [concL, Option.bind_eq_some_iff] at h
    obtain ⟨y, hy, ys, hys, hx⟩ := h
    simp at hx
    subst hx
    cases i with
    | zero => simp [hy]
    | succ i => simpa using concL_get hys i

theorem concL_length {σ : Sig} : ∀ {l : List AV} {xs : List Value}, concL ρ σ l = some xs → xs.length = l.length
  | [], xs, h => by simp [concL] at h; subst h; rfl
  | v :: vs, xs, h => by
    simp only [concL, Option.bind_eq_some_iff] at h
    obtain ⟨y, hy, ys, hys, hx⟩ := h
    simp at hx
    subst hx
    simp [concL_length hys]

theorem concL_append {σ : Sig} : ∀ {l m : List AV} {xs ys : List Value}, concL ρ σ l = some xs → concL ρ σ m = some ys → concL ρ σ (l ++ m) = some (xs ++ ys)
  | [], m, xs, ys, h, h' => by simp [concL] at h; subst h; simpa using h'
  | v :: vs, m, xs, ys, h, h' => by
    simp only [concL, Option.bind_eq_some_iff] at h
    obtain ⟨y, hy, zs, hzs, hx⟩ := h
    simp at hx
    subst hx
    simp [concL, hy, concL_append hzs h']

/-- A list is real where each of its values is. -/
theorem concL_of_all {σ : Sig} : ∀ {l : List AV} {xs : List Value}, l.length = xs.length → (∀ (i : Nat) (v : AV), l[i]? = some v → ∃ x, xs[i]? = some x ∧ conc ρ σ v = some x) → concL ρ σ l = some xs
  | [], [], _, _ => rfl
  | [], _ :: _, h, _ => by simp at h
  | _ :: _, [], h, _ => by simp at h
  | v :: vs, x :: xs, h, h' => by
    have h0 := h' 0 v rfl
    simp at h0
    have h1 := concL_of_all (l := vs) (xs := xs) (by simpa using h) (fun i v hv => by have := h' (i + 1) v (by simpa using hv); simpa using this)
    simp [concL, h0, h1]

theorem concL_some_of {σ : Sig} : ∀ {l : List AV}, (∀ v ∈ l, (conc ρ σ v).isSome) → ∃ xs, concL ρ σ l = some xs
  | [], _ => ⟨[], rfl⟩
  | v :: vs, h => by
    obtain ⟨x, hx⟩ := Option.isSome_iff_exists.1 (h v (by simp))
    obtain ⟨xs, hxs⟩ := concL_some_of (l := vs) (fun u hu => h u (by simp [hu]))
    exact ⟨x :: xs, by simp [concL, hx, hxs]⟩

theorem bytesOf_size (s : List Nat) : (bytesOf s).size = s.length := by simp [bytesOf, ByteArray.size]

theorem conc_ofValueA (σ : Sig) {rec : Value → Option AV} (ih : ∀ x v, rec x = some v → conc ρ σ v = some x) (x : Value) (v : AV) (h : ofValueA rec x = some v) : conc ρ σ v = some x := by
  have lists : ∀ (cs : List Value) (l : List AV), cs.mapM rec = some l → concL ρ σ l = some cs := by
    intro cs
    induction cs with
    | nil => intro l h; simp at h; subst h; rfl
    | cons c cs ihc =>
      intro l h
      simp only [List.mapM_cons, Option.bind_eq_bind, Option.bind_eq_some_iff] at h
      obtain ⟨y, hy, ys, hys, h⟩ := h
      simp at h
      subst h
      simp [concL, ih c y hy, ihc ys hys]
  unfold ofValueA at h
  split at h
  case h_3 s =>
    simp at h
    subst h
    simp only [conc]
    rw [if_pos (by rw [List.all_map, List.all_eq_true]; intro c _; simpa using UInt8.toNat_lt c)]
    simp [bytesOf, Function.comp_def]
  case h_9 cs =>
    simp only [Option.bind_eq_some_iff] at h
    obtain ⟨l, hl, h⟩ := h
    simp at h
    subst h
    simp [conc, lists _ _ hl]
  case h_10 cs =>
    simp only [Option.bind_eq_some_iff] at h
    obtain ⟨l, hl, h⟩ := h
    simp at h
    subst h
    simp [conc, lists _ _ hl]
  case h_11 t y =>
    simp only [Option.bind_eq_some_iff] at h
    obtain ⟨l, hl, h⟩ := h
    simp at h
    subst h
    simp [conc, ih _ _ hl]
  all_goals simp at h
  all_goals subst h
  all_goals simp [conc]

/-- A constant means itself. -/
theorem conc_ofValue (σ : Sig) : ∀ (d : Nat) (x : Value) (v : AV), ofValue d x = some v → conc ρ σ v = some x
  | 0, x, v, h => conc_ofValueA σ (fun _ _ h => by simp at h) x v h
  | d + 1, x, v, h => conc_ofValueA σ (conc_ofValue σ d) x v h


/-! ### Worlds -/

def CellAt (ρ : Env) (σ : Sig) (w : World) (e : Ent) (i : Nat) (v : AV) : Prop :=
  ∃ x, w.cell? ⟨e.blk, e.off + i, none⟩ = some x ∧ conc ρ σ v = some x ∧ w.frozen? ⟨e.blk, e.off + i, none⟩ = false

structure EntRel (ρ : Env) (σ : Sig) (a : AEntry) (m : MapEntry) : Prop where
  key : conc ρ σ a.key = some m.key
  val : conc ρ σ a.val = some m.val
  born : a.born = m.born

inductive EntsRel (ρ : Env) (σ : Sig) : List AEntry → List MapEntry → Prop
  | nil : EntsRel ρ σ [] []
  | cons {a : AEntry} {m : MapEntry} {as : List AEntry} {ms : List MapEntry} : EntRel ρ σ a m → EntsRel ρ σ as ms → EntsRel ρ σ (a :: as) (m :: ms)

structure CellsRel (ρ : Env) (σ : Sig) (w : World) (e : Ent) (cs : List AV) (g : Bool) (el : Option TypeId) : Prop where
  cell : ∀ (i : Nat) (v : AV), cs[i]? = some v → CellAt ρ σ w e i v
  room : g = true → ∀ i, i < e.cap * e.esz → (∃ x, w.cell? ⟨e.blk, e.off + i, none⟩ = some x) ∧ w.frozen? ⟨e.blk, e.off + i, none⟩ = false
  elem : ∀ t, el = some t → ∃ c, w.shape? e.blk = some (t, c) ∧ (g = false → e.off = 0 ∧ c = cs.length) ∧ w.frozen? ⟨e.blk, c, none⟩ = false

def ASt.to : ASt → LoopState
  | .ready => .ready
  | .busy => .busy
  | .done => .done
  | .exhausted => .exhausted

/-- The block of a map that an iterator goes over. -/
def iterOf (σ : Sig) : Option Nat → Option (Option Nat)
  | none => some none
  | some m => (σ m).map fun e => some e.blk

def ObjRel (ρ : Env) (σ : Sig) (w : World) (e : Ent) : AObj → Prop
  | .cells cs g _ el => CellsRel ρ σ w e cs g el
  | .map es clock => ∃ ms : Array MapEntry, w.heap[e.blk]? = some (.map ms clock) ∧ EntsRel ρ σ es ms.toList
  | .arr T n z => ∀ i, i < n → CellAt ρ σ w e i (arrAt T z i)
  | .siter s pos => e.off = 0 ∧ (∀ c ∈ s, c < 256) ∧ w.heap[e.blk]? = some (.stringIter (bytesOf s) pos)
  | .miter m since seen last => e.off = 0 ∧ ∃ cm, iterOf σ m = some cm ∧ w.heap[e.blk]? = some (.mapIter cm since seen.toArray last)
  | .loop l st pend => ∃ (fn : FuncId) (tmps : Array Value) (d : Nat), w.heap[e.blk]? = some (.loop { state := st.to, pending := pend, fn, tmps, params := l.ps.toArray, assign := l.assign, body := l.body, defers := d }) ∧
      tmps.size = l.nt ∧ ∀ t v, l.T.get t = some v → t < l.nt ∧ conc ρ σ v = some (tmps.getD t undef)
  | .defd => w.heap[e.blk]? = some (.deferred (some []))

def AObj.kin : AObj → Option Nat
  | .cells _ _ k _ => k
  | _ => none

/-- What stays as it was: blocks, and all that is no block. -/
structure Kp where
  blk : Nat → Option Obj
  os : Os
  tape : Nat → Question → Nat
  output : Array (Nat × ByteArray)

instance : CoeFun Kp (fun _ => Nat → Option Obj) := ⟨Kp.blk⟩

/-- All that is no block is as it was. -/
def Rest (K : Kp) (w : World) : Prop := w.os = K.os ∧ w.tape = K.tape ∧ w.output = K.output

def Calm (w w' : World) : Prop := w'.os = w.os ∧ w'.tape = w.tape ∧ w'.output = w.output

theorem Rest.calm {K : Kp} {w w' : World} (h : Rest K w) (hc : Calm w w') : Rest K w' := ⟨hc.1.trans h.1, hc.2.1.trans h.2.1, hc.2.2.trans h.2.2⟩

/-- What is known of the cells of a variable that is only read. -/
def GlobA (ρ : Env) (cs : List AV) (a : Array Value) : Prop := ∀ (i : Nat) (v : AV), cs[i]? = some v → ∃ x, a[i]? = some x ∧ conc ρ (fun _ => none) v = some x

/-- The variables that are only read stay as they are. -/
def GlobK (ρ : Env) (K : Kp) : Prop := ∀ g cs, ρ.G g = some cs → ∃ a t fr, K g = some (.cells a t fr) ∧ GlobA ρ cs a

structure Rel (ρ : Env) (K : Kp) (S : St) (w : World) (σ : Sig) : Prop where
  low : ∀ b e, σ b = some e → b < S.next ∧ e.blk < w.heap.size
  obj : ∀ b o, S.h.get b = some o → ∃ e, σ b = some e ∧ ObjRel ρ σ w e o
  sep : ∀ b b' o o' e e', S.h.get b = some o → S.h.get b' = some o' → σ b = some e → σ b' = some e' → e.blk = e'.blk → b = b' ∨ (o.kin = some b' ∧ o'.kin = some b)
  keep : ∀ r ob, K r = some ob → w.heap[r]? = some ob
  apart : ∀ b o e r, S.h.get b = some o → σ b = some e → (K r).isSome → e.blk ≠ r
  rest : Rest K w
  glob : GlobK ρ K

theorem Rel.globs {K : Kp} {S : St} {w : World} {σ : Sig} (h : Rel ρ K S w σ) (g : Nat) (cs : List AV) (hg : ρ.G g = some cs) : ∃ a t fr, w.heap[g]? = some (.cells a t fr) ∧ GlobA ρ cs a :=
  let ⟨a, t, fr, h1, h2⟩ := h.glob g cs hg
  ⟨a, t, fr, h.keep g _ h1, h2⟩

/-- Agree below a number. -/
def Ext (n : Nat) (σ σ' : Sig) : Prop := ∀ b, b < n → σ' b = σ b

theorem Ext.refl (n : Nat) (σ : Sig) : Ext n σ σ := fun _ _ => rfl
theorem Ext.trans {n n' : Nat} {σ σ' σ'' : Sig} (h : Ext n σ σ') (h' : Ext n' σ' σ'') (hn : n ≤ n') : Ext n σ σ'' := fun b hb => (h' b (by omega)).trans (h b hb)

theorem Rel.le {K : Kp} {S : St} {w : World} {σ σ' : Sig} (h : Rel ρ K S w σ) (hx : Ext S.next σ σ') : σ.le σ' :=
  fun b e hb => by rw [hx b (h.low b e hb).1]; exact hb

theorem EntsRel.mono {σ σ' : Sig} (h : σ.le σ') : ∀ {as : List AEntry} {ms : List MapEntry}, EntsRel ρ σ as ms → EntsRel ρ σ' as ms
  | _, _, .nil => .nil
  | _, _, .cons ⟨a, b, c⟩ r => .cons ⟨conc_mono h _ _ a, conc_mono h _ _ b, c⟩ (EntsRel.mono h r)

theorem ObjRel.mono {σ σ' : Sig} {w : World} {e : Ent} (h : σ.le σ') : ∀ {o : AObj}, ObjRel ρ σ w e o → ObjRel ρ σ' w e o
  | .cells _ _ _ _, ho => ⟨fun i v hi => let ⟨x, h1, h2, h3⟩ := ho.cell i v hi; ⟨x, h1, conc_mono h _ _ h2, h3⟩, ho.room, ho.elem⟩
  | .map _ _, ⟨ms, h1, h2⟩ => ⟨ms, h1, h2.mono h⟩
  | .arr _ _ _, ho => fun i hi => let ⟨x, h1, h2, h3⟩ := ho i hi; ⟨x, h1, conc_mono h _ _ h2, h3⟩
  | .siter _ _, ho => ho
  | .miter m _ _ _, ⟨h0, cm, h1, h2⟩ => ⟨h0, cm, by
      cases m with
      | none => exact h1
      | some m =>
        simp only [iterOf, Option.map_eq_some_iff] at h1 ⊢
        obtain ⟨e', h3, h4⟩ := h1
        exact ⟨e', h m e' h3, h4⟩, h2⟩
  | .loop _ _ _, ⟨fn, tmps, d, h1, h2, h3⟩ => ⟨fn, tmps, d, h1, h2, fun t v hv => ⟨(h3 t v hv).1, conc_mono h _ _ (h3 t v hv).2⟩⟩
  | .defd, ho => ho

/-- A world that has the same in a block. -/
theorem ObjRel.world {σ : Sig} {w w' : World} {e : Ent} (h : w'.heap[e.blk]? = w.heap[e.blk]?) : ∀ {o : AObj}, ObjRel ρ σ w e o → ObjRel ρ σ w' e o
  | .cells _ _ _ _, ho => by
    have hc : ∀ i, w'.cell? ⟨e.blk, i, none⟩ = w.cell? ⟨e.blk, i, none⟩ := fun i => by simp [World.cell?, h]
    have hf : ∀ i, w'.frozen? ⟨e.blk, i, none⟩ = w.frozen? ⟨e.blk, i, none⟩ := fun i => by simp [World.frozen?, h]
    have hs : w'.shape? e.blk = w.shape? e.blk := by simp [World.shape?, h]
    refine ⟨fun i v hi => ?_, fun hg i hi => ?_, fun t ht => ?_⟩
    · obtain ⟨x, h1, h2, h3⟩ := ho.cell i v hi; exact ⟨x, by rw [hc]; exact h1, h2, by rw [hf]; exact h3⟩
    · obtain ⟨⟨x, h1⟩, h2⟩ := ho.room hg i hi; exact ⟨⟨x, by rw [hc]; exact h1⟩, by rw [hf]; exact h2⟩
    · obtain ⟨c, h1, h2, h3⟩ := ho.elem t ht
      exact ⟨c, by rw [hs]; exact h1, h2, by rw [hf]; exact h3⟩
  | .map _ _, ⟨ms, h1, h2⟩ => ⟨ms, by rw [h]; exact h1, h2⟩
  | .arr _ _ _, ho => fun i hi => by
    obtain ⟨x, h1, h2, h3⟩ := ho i hi
    exact ⟨x, by simp only [World.cell?] at h1 ⊢; rw [h]; exact h1, h2, by simp only [World.frozen?] at h3 ⊢; rw [h]; exact h3⟩
  | .siter _ _, ⟨h0, h1, h2⟩ => ⟨h0, h1, by rw [h]; exact h2⟩
  | .miter _ _ _ _, ⟨h0, cm, h1, h2⟩ => ⟨h0, cm, h1, by rw [h]; exact h2⟩
  | .loop _ _ _, ⟨fn, tmps, d, h1, h2⟩ => ⟨fn, tmps, d, by rw [h]; exact h1, h2⟩
  | .defd, ho => by show w'.heap[e.blk]? = _; rw [h]; exact ho

/-- Only the count of draws has turned. -/
theorem Rel.heap {K : Kp} {S : St} {w w' : World} {σ : Sig} (h : Rel ρ K S w σ) (hw : w'.heap = w.heap) (hc : Calm w w') : Rel ρ K S w' σ :=
  ⟨fun b e hb => by rw [hw]; exact h.low b e hb, fun b o hb => let ⟨e, h1, h2⟩ := h.obj b o hb; ⟨e, h1, h2.world (by rw [hw])⟩, h.sep,
   fun r ob hr => by rw [hw]; exact h.keep r ob hr, h.apart, h.rest.calm hc, h.glob⟩

/-- Blocks that are forgotten. -/
theorem Rel.forget {K : Kp} {S S' : St} {w : World} {σ : Sig} (h : Rel ρ K S w σ) (hn : S.next ≤ S'.next) (hs : ∀ b o, S'.h.get b = some o → S.h.get b = some o) : Rel ρ K S' w σ :=
  ⟨fun b e hb => ⟨by have := (h.low b e hb).1; omega, (h.low b e hb).2⟩, fun b o hb => h.obj b o (hs b o hb),
   fun b b' o o' e e' h1 h2 => h.sep b b' o o' e e' (hs b o h1) (hs b' o' h2), h.keep, fun b o e r h1 => h.apart b o e r (hs b o h1), h.rest, h.glob⟩

def Sig.put (σ : Sig) (b : Nat) (e : Ent) : Sig := fun b' => if b' = b then some e else σ b'

theorem Sig.put_ext {σ : Sig} {n b : Nat} {e : Ent} (h : n ≤ b) : Ext n σ (σ.put b e) := fun b' hb => by simp [Sig.put]; omega

/-- A new block. -/
theorem Rel.new {K : Kp} {S S' : St} {w : World} {σ : Sig} {o : AObj} {ob : Obj} {id : Nat} {e : Ent} (h : Rel ρ K S w σ) (hS : S.new o = some (id, S'))
    (he : e.blk = w.heap.size) (ho : ∀ σ', σ.le σ' → ObjRel ρ σ' (w.alloc ob) e o) :
    id = S.next ∧ S'.next = S.next + 1 ∧ Rel ρ K S' (w.alloc ob) (σ.put id e) ∧ Ext S.next σ (σ.put id e) := by
  unfold St.new at hS
  cases h1 : S.h.set S.next o with
  | none => rw [h1] at hS; simp at hS
  | some t =>
    rw [h1] at hS
    simp at hS
    obtain ⟨rfl, rfl⟩ := hS
    have hg := Tr.get_set S.h S.next o t h1
    have hx : Ext S.next σ (σ.put S.next e) := Sig.put_ext (Nat.le_refl _)
    have hle := h.le hx
    refine ⟨rfl, rfl, ⟨?_, ?_, ?_, ?_, ?_, h.rest.calm ⟨rfl, rfl, rfl⟩, h.glob⟩, hx⟩
    · intro b e' hb
      simp only [Sig.put] at hb
      simp only [World.size_alloc]
      split at hb
      · simp at hb; subst hb; subst b; exact ⟨Nat.lt_succ_self _, by omega⟩
      · have := h.low b e' hb; exact ⟨Nat.lt_succ_of_lt this.1, by omega⟩
    · intro b o' hb
      simp only [hg] at hb
      split at hb
      · simp at hb; subst hb; subst b; exact ⟨e, by simp [Sig.put], ho _ hle⟩
      · obtain ⟨e', h1, h2⟩ := h.obj b o' hb
        refine ⟨e', hle _ _ h1, (h2.mono hle).world ?_⟩
        have := (h.low b e' h1).2
        simp only [World.alloc, Array.getElem?_push]
        rw [if_neg (by omega)]
    · intro b b' o1 o2 e1 e2 g1 g2 s1 s2 hb
      simp only [hg] at g1 g2
      simp only [Sig.put] at s1 s2
      split at g1 <;> split at g2
      · left; omega
      · rename_i hb1 hb2
        rw [if_pos hb1] at s1; rw [if_neg hb2] at s2
        simp at s1; subst s1
        have := (h.low _ _ s2).2; omega
      · rename_i hb1 hb2
        rw [if_neg hb1] at s1; rw [if_pos hb2] at s2
        simp at s2; subst s2
        have := (h.low _ _ s1).2; omega
      · rename_i hb1 hb2
        rw [if_neg hb1] at s1; rw [if_neg hb2] at s2
        exact h.sep b b' o1 o2 e1 e2 g1 g2 s1 s2 hb
    · intro r ob' hr
      have := h.keep r ob' hr
      have hlt : r < w.heap.size := by
        rcases Nat.lt_or_ge r w.heap.size with h' | h'
        · exact h'
        · simp [Array.getElem?_eq_none h'] at this
      simp only [World.alloc, Array.getElem?_push]
      rw [if_neg (by omega)]; exact this
    · intro b o' e' r g1 s1 hr
      simp only [hg] at g1
      simp only [Sig.put] at s1
      split at g1
      · rename_i hb1
        rw [if_pos hb1] at s1
        simp at s1; subst s1
        obtain ⟨ob', hob⟩ := Option.isSome_iff_exists.1 hr
        have := h.keep r ob' hob
        have hlt : r < w.heap.size := by
          rcases Nat.lt_or_ge r w.heap.size with h' | h'
          · exact h'
          · simp [Array.getElem?_eq_none h'] at this
        omega
      · rename_i hb1
        rw [if_neg hb1] at s1
        exact h.apart b o' e' r g1 s1 hr

/-- A block alone: nobody else lies in its memory. -/
theorem Rel.alone {K : Kp} {S S' : St} {w : World} {σ : Sig} {b : Nat} {cs : List AV} {g : Bool} {el : Option TypeId} (h : Rel ρ K S w σ) (hS : S.alone b = some (cs, g, el, S')) :
    Rel ρ K S' w σ ∧ S'.next = S.next ∧ (∃ k, S'.h.get b = some (.cells cs g k el)) ∧ ∃ e, σ b = some e ∧ CellsRel ρ σ w e cs g el ∧
      (∀ b' o' e', b' ≠ b → S'.h.get b' = some o' → σ b' = some e' → e'.blk ≠ e.blk) ∧ (∀ b' o', S'.h.get b' = some o' → S.h.get b' = some o') ∧ (∀ r, (K r).isSome → e.blk ≠ r) := by
  unfold St.alone at hS
  cases h1 : S.h.get b with
  | none => rw [h1] at hS; simp at hS
  | some o =>
    rw [h1] at hS
    obtain ⟨e, he, ho⟩ := h.obj b o h1
    cases o with
    | map _ _ => simp at hS
    | arr _ _ _ => simp at hS
    | siter _ _ => simp at hS
    | miter _ _ _ _ => simp at hS
    | loop _ _ _ => simp at hS
    | defd => simp at hS
    | cells cs' g' k el' =>
      cases k with
      | none =>
        simp at hS
        obtain ⟨rfl, rfl, rfl, rfl⟩ := hS
        refine ⟨h, rfl, ⟨_, h1⟩, e, he, ho, fun b' o' e' hne hb' hs' heq => ?_, fun _ _ h => h, fun r hr => h.apart b _ e r h1 he hr⟩
        rcases h.sep b' b o' _ e' e hb' h1 hs' he heq with h2 | h2
        · exact hne h2
        · simp [AObj.kin] at h2
      | some c =>
        simp only [Option.bind_some] at hS
        split at hS
        · cases hS
        rename_i hcb
        have hcb : c ≠ b := fun h => hcb (by subst h; simp)
        simp only [Option.some.injEq, Prod.mk.injEq] at hS
        obtain ⟨rfl, rfl, rfl, rfl⟩ := hS
        have hd : ∀ b' o', (S.h.del c).get b' = some o' → S.h.get b' = some o' ∧ b' ≠ c := fun b' o' hb' => by
          rw [Tr.get_del] at hb'
          split at hb'
          · cases hb'
          · rename_i hne; exact ⟨hb', hne⟩
        refine ⟨h.forget (Nat.le_refl _) fun b' o' hb' => (hd b' o' hb').1, rfl, ⟨some c, by rw [Tr.get_del, if_neg (Ne.symm hcb)]; exact h1⟩, e, he, ho, fun b' o' e' hne hb' hs' heq => ?_, fun b' o' hb' => (hd b' o' hb').1, fun r hr => h.apart b _ e r h1 he hr⟩
        obtain ⟨g1, g2⟩ := hd b' o' hb'
        rcases h.sep b' b o' _ e' e g1 h1 hs' he heq with h2 | h2
        · exact hne h2
        · simp [AObj.kin] at h2; exact g2 h2.2.symm

end Go.Sx
