/- Regions whose order is drawn: what the record of one order says. -/
import Derived.Test.YtbnjflmahipanaaGreatDoorSxSound
namespace Go.Sx
set_option linter.unusedSimpArgs false
set_option linter.unusedVariables false

mutual
theorem avEq_eq : ∀ (a b : AV), avEq a b = true → a = b
  | .bool a, b, h => by cases b <;> simp [avEq] at h; rw [h]
  | .int k n, b, h => by
    cases b <;> simp [avEq] at h
    obtain ⟨h1, h2⟩ := h
    rw [intEq_eq] at h2
    rw [kindEq_eq h1, eq_of_beq h2]
  | .str a, b, h => by
    cases b <;> simp [avEq] at h
    rw [strEq_eq] at h
    rw [of_decide_eq_true h]
  | .nilp, b, h => by cases b <;> simp [avEq] at h; rfl
  | .ptr _ _, b, h => by cases b <;> simp [avEq] at h; rw [h.1, h.2]
  | .nils, b, h => by cases b <;> simp [avEq] at h; rfl
  | .slice .., b, h => by cases b <;> simp [avEq] at h; rw [h.1.1.1, h.1.1.2, h.1.2, h.2]
  | .gslice .., b, h => by cases b <;> simp [avEq] at h; rw [h.1.1.1, h.1.1.2, h.1.2, h.2]
  | .nilm, b, h => by cases b <;> simp [avEq] at h; rfl
  | .map _, b, h => by cases b <;> simp [avEq] at h; rw [h]
  | .nilf, b, h => by cases b <;> simp [avEq] at h; rfl
  | .func f x y, b, h => by
    cases b <;> try (cases f <;> simp [avEq] at h; done)
    rename_i g z u
    cases f <;> cases g <;> simp [avEq] at h
    rw [h.1.1, avEqL_eq _ _ h.1.2, avEqL_eq _ _ h.2]
  | .nili, b, h => by cases b <;> simp [avEq] at h; rfl
  | .iface _ x, b, h => by cases b <;> simp [avEq] at h; rw [h.1, avEq_eq _ _ h.2]
  | .agg x, b, h => by cases b <;> simp [avEq] at h; rw [avEqL_eq _ _ h]
  | .tuple x, b, h => by cases b <;> simp [avEq] at h; rw [avEqL_eq _ _ h]
  | .opq _, b, h => by cases b <;> simp [avEq] at h; rw [h]
  | .ops .., b, h => by cases b <;> simp [avEq] at h; rw [h.1.1, h.1.2, h.2]
  | .opl .., b, h => by cases b <;> simp [avEq] at h
  | .gptr .., b, h => by cases b <;> simp [avEq] at h; rw [h.1, h.2]
  | .yld _, b, h => by cases b <;> simp [avEq] at h; rw [h]
  | .eslice .., b, h => by cases b <;> simp [avEq] at h; rw [h.1.1.1, h.1.1.2, h.1.2, h.2]
theorem avEqL_eq : ∀ (a b : List AV), avEqL a b = true → a = b
  | [], b, h => by cases b <;> simp [avEqL] at h; rfl
  | x :: a, b, h => by
    cases b <;> simp [avEqL] at h
    rw [avEq_eq _ _ h.1, avEqL_eq _ _ h.2]
end

theorem maskAt_some {on m : Nat} : ∀ {rs : List Rec}, maskAt on rs = some m → ∃ r ∈ rs, r.i = on ∧ r.m = m
  | [], h => by cases h
  | r :: rs, h => by
    simp only [maskAt] at h
    split at h
    · rename_i hb
      simp only [Option.some.injEq] at h
      exact ⟨r, by simp, Nat.eq_of_beq_eq_true hb, h⟩
    · obtain ⟨r', h1, h2⟩ := maskAt_some h
      exact ⟨r', by simp [h1], h2⟩

theorem dmask_spec {rs : List Rec} {m : Nat} : ∀ {es : List Edge} {m0 : Nat}, dmask rs es m0 = some m →
    (∀ e ∈ es, Region.binds .any e = true → ∃ r ∈ rs, r.i = e.on) ∧
    (∀ j, m.testBit j = true → m0.testBit j = true ∨ ∃ e ∈ es, Region.binds .any e = true ∧ (j = e.on ∨ ∃ r ∈ rs, r.i = e.on ∧ r.m.testBit j = true))
  | [], m0, h => by
    simp only [dmask, Option.some.injEq] at h
    subst h
    exact ⟨fun e he => by simp at he, fun j hj => .inl hj⟩
  | e :: es, m0, h => by
    simp only [dmask] at h
    split at h
    · rename_i hb
      simp only [Option.bind_eq_some_iff] at h
      obtain ⟨k, hk, h⟩ := h
      obtain ⟨r, hr, h1, h2⟩ := maskAt_some hk
      obtain ⟨q1, q2⟩ := dmask_spec h
      refine ⟨fun e' he' hb' => ?_, fun j hj => ?_⟩
      · rcases List.mem_cons.1 he' with rfl | he'
        · exact ⟨r, hr, h1⟩
        · exact q1 e' he' hb'
      · rcases q2 j hj with hj | ⟨e', he', hb', hj⟩
        · have : ((m0 ||| k) ||| 2 ^ e.on).testBit j = true := hj
          rw [Nat.testBit_or, Nat.testBit_or, Nat.testBit_two_pow] at this
          simp only [Bool.or_eq_true, decide_eq_true_eq] at this
          rcases this with (h3 | h3) | h3
          · exact .inl h3
          · exact .inr ⟨e, by simp, hb, .inr ⟨r, hr, h1, by rw [h2]; exact h3⟩⟩
          · exact .inr ⟨e, by simp, hb, .inl h3.symm⟩
        · exact .inr ⟨e', by simp [he'], hb', hj⟩
    · rename_i hb
      obtain ⟨q1, q2⟩ := dmask_spec h
      refine ⟨fun e' he' hb' => ?_, fun j hj => ?_⟩
      · rcases List.mem_cons.1 he' with rfl | he'
        · exact absurd hb' hb
        · exact q1 e' he' hb'
      · rcases q2 j hj with hj | ⟨e', he', hb', hj⟩
        · exact .inl hj
        · exact .inr ⟨e', by simp [he'], hb', hj⟩

theorem dapart_spec {ops : Array Oper} {o : Oper} {m : Nat} : ∀ {rs : List Rec}, dapart ops o m rs = true → ∀ p ∈ rs, m.testBit p.i = true ∨ p.o.apart ops o = true
  | [], _, p, hp => by simp at hp
  | q :: rs, h, p, hp => by
    simp only [dapart, Bool.and_eq_true, Bool.or_eq_true] at h
    rcases List.mem_cons.1 hp with rfl | hp
    · exact h.1
    · exact dapart_spec h.2 p hp

def RK.isHeavy : RK → Bool
  | .heavy _ _ => true
  | _ => false

theorem dheavy_spec {m : Nat} : ∀ {rs : List Rec}, dheavy m rs = true → ∀ p ∈ rs, p.k.isHeavy = true → m.testBit p.i = true
  | [], _, p, hp, _ => by simp at hp
  | q :: rs, h, p, hp, hh => by
    simp only [dheavy, Bool.and_eq_true] at h
    rcases List.mem_cons.1 hp with rfl | hp
    · have := h.1
      split at this
      · exact this
      · rename_i hk
        cases hk' : p.k <;> simp [hk', RK.isHeavy] at hh
        exact absurd hk' (hk _ _)
    · exact dheavy_spec h.2 p hp hh

section
variable (P : Program) (xt : FuncId → Option Xt) (cal : Cal) (nt base : Nat) (ops : Array Oper) (T0 : Tr AV) (S0 : St)

def KindOk (r : Rec) (rs : List Rec) (Sp S : St) : Prop :=
  match r.k with
  | .quiet => S = Sp ∧ ((awanted ops r.T r.o = some false ∧ r.v = .tuple []) ∨ (awanted ops r.T r.o = some true ∧ classOf P r.o = .pure ∧ apure P (evD r.T r.o) r.o = some r.v))
  | .read => S = Sp ∧ awanted ops r.T r.o = some true ∧ classOf P r.o = .read
  | .alloc ob => S = Sp ∧ awanted ops r.T r.o = some true ∧ classOf P r.o = .alloc ∧ aalloc P (evD r.T r.o) (base + r.i) r.o = some (r.v, ob)
  | .heavy Sc S' => S = S' ∧ awanted ops r.T r.o = some true ∧ classOf P r.o = .heavy ∧ commit base ((dpend rs).filter fun p => r.m.testBit p.1) Sp = some Sc ∧ hop P xt cal r.T Sc r.o = some (r.v, S') ∧
      ∀ p ∈ rs, p.k.isHeavy = true → r.m.testBit p.i = true

def MaskOk (r : Rec) (rs : List Rec) : Prop :=
  (∀ e ∈ r.o.after, Region.binds .any e = true → ∃ p ∈ rs, p.i = e.on) ∧
  ∀ j, r.m.testBit j = true → ∃ e ∈ r.o.after, Region.binds .any e = true ∧ (j = e.on ∨ ∃ p ∈ rs, p.i = e.on ∧ p.m.testBit j = true)

/-- The record, newest first. -/
def Ok : List Rec → Tr AV → St → Prop
  | [], T, S => T = T0 ∧ S = S0
  | r :: rs, T, S => ∃ Sp, Ok rs r.T Sp ∧ r.i = rs.length ∧ ops[r.i]? = some r.o ∧ MaskOk r rs ∧ (∀ p ∈ rs, r.m.testBit p.i = true ∨ p.o.apart ops r.o = true) ∧
      put nt r.T r.o.dst r.v = some T ∧ KindOk P xt cal base ops r rs Sp S

variable {P xt cal nt base ops T0 S0} {G : Nat → Option (List AV)}

theorem dgo_ok : ∀ {l : List Oper} {i : Nat} {rs : List Rec} {T T' : Tr AV} {S S' : St} {rs' : List Rec}, dgo P G xt cal nt base ops l i rs T S = some (rs', T', S') → i = rs.length →
    (∀ j, l[j]? = ops[i + j]?) → Ok P xt cal nt base ops T0 S0 rs T S → Ok P xt cal nt base ops T0 S0 rs' T' S' ∧ rs'.length = i + l.length
  | [], i, rs, T, T', S, S', rs', h, hi, _, hok => by
    simp only [dgo, Option.some.injEq, Prod.mk.injEq] at h
    obtain ⟨rfl, rfl, rfl⟩ := h
    exact ⟨hok, by simp [hi]⟩
  | o :: l, i, rs, T, T', S, S', rs', h, hi, hl, hok => by
    simp only [dgo, Option.bind_eq_some_iff] at h
    obtain ⟨m, hm, h⟩ := h
    obtain ⟨m1, m2⟩ := dmask_spec hm
    have ho : ops[i]? = some o := by simpa using (hl 0).symm
    have hl' : ∀ j, l[j]? = ops[i + 1 + j]? := fun j => by have := hl (j + 1); simpa [Nat.add_assoc, Nat.add_comm 1 j] using this
    have hmask : ∀ (T : Tr AV) (v : AV) (k : RK), MaskOk ⟨o, i, m, T, v, k⟩ rs := fun T v k =>
      ⟨fun e he => m1 e (by simpa using he), fun j hj => by
        rcases m2 j hj with h0 | ⟨e, he, h1⟩
        · simp at h0
        · exact ⟨e, by simpa using he, h1⟩⟩
    split at h
    · rename_i hap
      have hap := dapart_spec hap
      simp only [Option.bind_eq_some_iff] at h
      obtain ⟨w, hw, h⟩ := h
      have go : ∀ {v : AV} {k : RK} {T1 : Tr AV} {S1 : St}, put nt T o.dst v = some T1 → KindOk P xt cal base ops ⟨o, i, m, T, v, k⟩ rs S S1 →
          dgo P G xt cal nt base ops l (i + 1) (⟨o, i, m, T, v, k⟩ :: rs) T1 S1 = some (rs', T', S') → Ok P xt cal nt base ops T0 S0 rs' T' S' ∧ rs'.length = i + (o :: l).length := by
        intro v k T1 S1 h1 h2 h3
        obtain ⟨q1, q2⟩ := dgo_ok h3 (by simp [hi]) hl' ⟨S, hok, hi, ho, hmask T v k, hap, h1, h2⟩
        exact ⟨q1, by rw [q2]; simp; omega⟩
      split at h
      · rename_i hwt
        subst hwt
        split at h
        · rename_i hcl
          simp only [Option.bind_eq_some_iff] at h
          obtain ⟨v, hv, T1, hp, h⟩ := h
          exact go (k := .quiet) hp ⟨rfl, .inr ⟨hw, hcl, hv⟩⟩ h
        · rename_i hcl
          simp only [Option.bind_eq_some_iff] at h
          obtain ⟨v, hv, T1, hp, h⟩ := h
          exact go (k := .read) hp ⟨rfl, hw, hcl⟩ h
        · rename_i hcl
          simp only [Option.bind_eq_some_iff] at h
          obtain ⟨⟨v, ob⟩, hv, T1, hp, h⟩ := h
          exact go (k := .alloc ob) hp ⟨rfl, hw, hcl, hv⟩ h
        · rename_i hcl
          split at h
          · rename_i hh
            simp only [Option.bind_eq_some_iff] at h
            obtain ⟨Sc, hc, ⟨v, S1⟩, hv, T1, hp, h⟩ := h
            exact go (k := .heavy Sc S1) hp ⟨rfl, hw, hcl, hc, hv, dheavy_spec hh⟩ h
          · cases h
      · rename_i hwf
        have hwf : w = false := by simpa using hwf
        subst hwf
        simp only [Option.bind_eq_some_iff] at h
        obtain ⟨T1, hp, h⟩ := h
        exact go (k := .quiet) hp ⟨rfl, .inl ⟨hw, rfl⟩⟩ h
    · cases h

/-! ### Temporaries and the heap after some of the operations -/

def val (T0 : Tr AV) (D : Nat → Bool) : List Rec → Nat → Option AV
  | [], t => T0.get t
  | r :: rs, t => if r.o.dst = some t ∧ D r.i = true then some r.v else val T0 D rs t

def snap (S0 : St) (D : Nat → Bool) : List Rec → St
  | [] => S0
  | r :: rs => match r.k with
    | .heavy _ S' => if D r.i then S' else snap S0 D rs
    | _ => snap S0 D rs

theorem val_suf {D : Nat → Bool} {l : List Rec} {t : Nat} : ∀ {suf : List Rec}, (∀ r ∈ suf, r.o.dst = some t → D r.i = false) → val T0 D (suf ++ l) t = val T0 D l t
  | [], _ => rfl
  | r :: suf, h => by
    simp only [List.cons_append, val]
    rw [if_neg fun ⟨h1, h2⟩ => by rw [h r (by simp) h1] at h2; cases h2]
    exact val_suf fun r' hr' => h r' (by simp [hr'])

theorem val_all {D D' : Nat → Bool} {t : Nat} : ∀ {l : List Rec}, (∀ r ∈ l, r.o.dst = some t → D r.i = D' r.i) → val T0 D l t = val T0 D' l t
  | [], _ => rfl
  | r :: l, h => by
    simp only [val]
    by_cases hd : r.o.dst = some t
    · rw [h r (by simp) hd, val_all fun r' hr' => h r' (by simp [hr'])]
    · rw [if_neg (fun hh => hd hh.1), if_neg (fun hh => hd hh.1), val_all fun r' hr' => h r' (by simp [hr'])]

theorem snap_suf {D : Nat → Bool} {l : List Rec} : ∀ {suf : List Rec}, (∀ r ∈ suf, r.k.isHeavy = true → D r.i = false) → snap S0 D (suf ++ l) = snap S0 D l
  | [], _ => rfl
  | r :: suf, h => by
    simp only [List.cons_append, snap]
    have ih := snap_suf (D := D) (l := l) (suf := suf) fun r' hr' => h r' (by simp [hr'])
    split
    · rename_i hk
      rw [if_neg (by rw [h r (by simp) (by simp [hk, RK.isHeavy])]; simp)]
      exact ih
    · exact ih

theorem snap_all {D D' : Nat → Bool} : ∀ {l : List Rec}, (∀ r ∈ l, r.k.isHeavy = true → D r.i = D' r.i) → snap S0 D l = snap S0 D' l
  | [], _ => rfl
  | r :: l, h => by
    simp only [snap]
    have ih := snap_all (D := D) (D' := D') (l := l) fun r' hr' => h r' (by simp [hr'])
    split
    · rename_i hk
      rw [h r (by simp) (by simp [hk, RK.isHeavy]), ih]
    · exact ih

theorem put_get {T T' : Tr AV} {dst : Option Tmp} {v : AV} (h : put nt T dst v = some T') (t : Nat) : T'.get t = if dst = some t then some v else T.get t := by
  cases dst with
  | none => simp only [put, Option.some.injEq] at h; subst h; simp
  | some d =>
    simp only [put] at h
    split at h
    · rw [Tr.get_set _ _ _ _ h t]
      by_cases hd : t = d
      · subst hd; simp
      · simp [hd, Ne.symm hd]
    · cases h

theorem put_lt {T T' : Tr AV} {d : Tmp} {v : AV} (h : put nt T (some d) v = some T') : d < nt := by
  simp only [put] at h
  split at h
  · rename_i hd; simpa [Nat.blt_eq] using hd
  · cases h

theorem Ok.val {rs : List Rec} : ∀ {T : Tr AV} {S : St}, Ok P xt cal nt base ops T0 S0 rs T S → ∀ t, T.get t = Sx.val T0 (fun _ => true) rs t := by
  induction rs with
  | nil => rintro T S ⟨rfl, rfl⟩ t; rfl
  | cons r rs ih =>
    rintro T S ⟨Sp, h1, h2, h3, h4, h5, h6, h7⟩ t
    rw [put_get h6 t, Sx.val, ih h1 t]
    simp

theorem Ok.snap {rs : List Rec} : ∀ {T : Tr AV} {S : St}, Ok P xt cal nt base ops T0 S0 rs T S → S = Sx.snap S0 (fun _ => true) rs := by
  induction rs with
  | nil => rintro T S ⟨rfl, rfl⟩; rfl
  | cons r rs ih =>
    rintro T S ⟨Sp, h1, h2, h3, h4, h5, h6, h7⟩
    have := ih h1
    unfold KindOk at h7
    simp only [Sx.snap]
    split at h7 <;> rename_i hk <;> simp only [hk]
    · rw [h7.1, this]
    · rw [h7.1, this]
    · rw [h7.1, this]
    · rw [h7.1]; simp

/-- One of the record, what was before it and what came after. -/
theorem Ok.split {r : Rec} {pre : List Rec} : ∀ {suf : List Rec} {T : Tr AV} {S : St}, Ok P xt cal nt base ops T0 S0 (suf ++ r :: pre) T S →
    (∃ T' S', Ok P xt cal nt base ops T0 S0 (r :: pre) T' S') ∧ (∀ s ∈ suf, (s.m.testBit r.i = true ∨ r.o.apart ops s.o = true) ∧ (s.k.isHeavy = true → r.k.isHeavy = true → s.m.testBit r.i = true) ∧ s.i ≠ r.i) ∧ r.i = pre.length ∧ (∀ p ∈ pre, p.i < r.i)
  | [], T, S, h => by
    refine ⟨⟨T, S, h⟩, fun s hs => by simp at hs, ?_, ?_⟩
    · obtain ⟨Sp, _, h2, _⟩ := h; exact h2
    · obtain ⟨Sp, h1, h2, _⟩ := h
      rw [h2]
      clear h2
      have : ∀ {rs : List Rec} {T : Tr AV} {S : St}, Ok P xt cal nt base ops T0 S0 rs T S → ∀ p ∈ rs, p.i < rs.length := by
        intro rs
        induction rs with
        | nil => intro T S _ p hp; simp at hp
        | cons q rs ih =>
          rintro T S ⟨Sp, g1, g2, _⟩ p hp
          rcases List.mem_cons.1 hp with rfl | hp
          · rw [g2]; simp
          · have := ih g1 p hp; simp; omega
      exact this h1
  | s :: suf, T, S, ⟨Sp, h1, h2, h3, h4, h5, h6, h7⟩ => by
    obtain ⟨q1, q2, q3, q4⟩ := Ok.split h1
    refine ⟨q1, fun s' hs' => ?_, q3, q4⟩
    rcases List.mem_cons.1 hs' with rfl | hs'
    · refine ⟨h5 r (by simp), fun a b => ?_, ?_⟩
      · unfold KindOk at h7
        cases hk : s'.k <;> simp [hk, RK.isHeavy] at a
        simp only [hk] at h7
        exact h7.2.2.2.2.2 r (by simp) b
      · rw [h2]; simp; omega
    · exact q2 s' hs'

end
end Go.Sx
