/- Maps that are written. -/
import Derived.Test.YtbnjflmahipanaaGreatDoorSxNew
namespace Go.Sx
set_option linter.unusedSimpArgs false
set_option linter.unusedVariables false

section
variable {P : Program} {ρ : Env} {σ : Sig} {w : World}

/-- An object that lies alone, written anew. -/
theorem Rel.setObj {K : Kp} {S S' : St} {w w' : World} {b : Nat} {o o' : AObj} {e : Ent} (h : Rel ρ K S w σ) (hb : S.h.get b = some o) (he : σ b = some e) (hk : o.kin = none)
    (hset : ∃ t, S.h.set b o' = some t ∧ S' = ⟨t, S.next⟩) (hsz : w'.heap.size = w.heap.size) (hoth : ∀ r, r ≠ e.blk → w'.heap[r]? = w.heap[r]?) (ho : ObjRel ρ σ w' e o') (hcalm : Calm w w') : Rel ρ K S' w' σ := by
  obtain ⟨t, ht, rfl⟩ := hset
  have hg := Tr.get_set S.h b _ t ht
  have hal : ∀ b' o1 e', b' ≠ b → S.h.get b' = some o1 → σ b' = some e' → e'.blk ≠ e.blk := fun b' o1 e' hne h1 h2 heq => by
    rcases h.sep b' b o1 o e' e h1 hb h2 he heq with h3 | h3
    · exact hne h3
    · rw [hk] at h3; cases h3.2
  have hK : ∀ r, (K r).isSome → e.blk ≠ r := fun r hr => h.apart b o e r hb he hr
  refine ⟨fun b' e' hb' => by rw [hsz]; exact h.low b' e' hb', fun b' o1 hb' => ?_, fun b1 b2 o1 o2 e1 e2 g1 g2 s1 s2 hq => ?_, fun r ob hr => ?_, fun b' o1 e' r g1 s1 hr => ?_, h.rest.calm hcalm, h.glob⟩
  · simp only [hg] at hb'
    split at hb'
    · simp at hb'; subst hb'; subst b'; exact ⟨e, he, ho⟩
    · rename_i hne
      obtain ⟨e', h1, h2⟩ := h.obj b' o1 hb'
      exact ⟨e', h1, h2.world (hoth _ (hal b' o1 e' hne hb' h1))⟩
  · simp only [hg] at g1 g2
    by_cases q1 : b1 = b
    · by_cases q2 : b2 = b
      · left; omega
      · rw [if_neg q2] at g2
        subst q1
        rw [he] at s1
        simp at s1; subst s1
        exact absurd hq.symm (hal b2 o2 e2 q2 g2 s2)
    · rw [if_neg q1] at g1
      by_cases q2 : b2 = b
      · subst q2
        rw [he] at s2
        simp at s2; subst s2
        exact absurd hq (hal b1 o1 e1 q1 g1 s1)
      · rw [if_neg q2] at g2
        exact h.sep b1 b2 o1 o2 e1 e2 g1 g2 s1 s2 hq
  · rw [hoth r (Ne.symm (hK r (by simp [hr])))]; exact h.keep r ob hr
  · simp only [hg] at g1
    split at g1
    · subst b'; rw [he] at s1; simp at s1; subst s1; exact hK r hr
    · exact h.apart b' o1 e' r g1 s1 hr

theorem keyEq_true {k k' : AV} (h : keyEq k k' = some true) : k = k' := by
  unfold keyEq at h
  split at h
  · split at h
    · rename_i hk
      obtain rfl := kindEq_eq hk
      simp only [Option.some.injEq] at h
      rw [intEq_eq] at h
      simp at h; subst h; rfl
    · cases h
  · simp only [Option.some.injEq] at h
    rw [strEq_eq] at h
    simp at h; subst h; rfl
  · simp only [Option.some.injEq] at h
    simp at h; subst h; rfl
  · split at h
    · rename_i hc
      simp only [Bool.and_eq_true] at hc
      rw [Nat.eq_of_beq_eq_true hc.1, Nat.eq_of_beq_eq_true hc.2]
    · cases h
  · cases h

theorem sameBits_self0 {u : TypeDesc} {k : AV} {x : Value} (hp : plainKey0 u k = true) (hk : conc ρ σ k = some x) (n : Nat) : Instr.sameBits n x x = true := by
  unfold plainKey0 at hp
  split at hp
  · obtain rfl := inv_int hk; cases n <;> simp [Instr.sameBits]
  · obtain ⟨rfl, hs⟩ := inv_str hk
    have : (bytesOf _ == bytesOf _) = true := (strEq_bytes hs hs).trans (by rw [strEq_eq]; simp)
    cases n <;> simpa [Instr.sameBits] using this
  · obtain rfl := inv_bool hk; cases n <;> simp [Instr.sameBits]
  · cases hp

theorem sameBits_self {u : TypeDesc} {k : AV} {x : Value} (hp : plainKey P u k = true) (hk : conc ρ σ k = some x) (n : Nat) : Instr.sameBits n x x = true := by
  rcases plainKey_or hp with hp | ⟨e', b, o, n', rfl, rfl, _, _⟩
  · exact sameBits_self0 hp hk n
  · obtain ⟨en, _, rfl⟩ := inv_ptr hk
    cases n <;> simp [Instr.sameBits]

theorem putK_spec {u : TypeDesc} {k v : AV} {x y : Value} {clock : Nat} (hp : plainKey0 u k = true) (hk : conc ρ σ k = some x) (hv : conc ρ σ v = some y) :
    ∀ {as as' : List AEntry} {ms : List MapEntry} {b : Bool} (i : Nat), EntsRel ρ σ as ms → putK k v clock as = some (as', b) →
      (b = true ∧ Instr.findNow u x ms i = some none ∧ EntsRel ρ σ as' (ms ++ [⟨x, y, clock⟩])) ∨
      (b = false ∧ ∃ j old, ms[j]? = some old ∧ old.key = x ∧ Instr.findNow u x ms i = some (some (i + j, old.val)) ∧ EntsRel ρ σ as' (ms.modify j fun e => { e with key := x, val := y }))
  | [], as', _, b, i, .nil, h => by
    simp [putK] at h
    obtain ⟨rfl, rfl⟩ := h
    exact .inl ⟨rfl, by simp [Instr.findNow], .cons ⟨hk, hv, rfl⟩ .nil⟩
  | a :: as, as', m :: ms, b, i, .cons ha hr, h => by
    simp only [putK, Option.bind_eq_some_iff] at h
    obtain ⟨r, hrk, h⟩ := h
    have h1 := sameNow_keyEq hp hk ha.key hrk
    cases r with
    | true =>
      simp only [if_true, Option.some.injEq, Prod.mk.injEq] at h
      obtain ⟨rfl, rfl⟩ := h
      have hkk := keyEq_true hrk
      have hxm : m.key = x := by
        have := ha.key
        rw [← hkk, hk] at this
        simpa using this.symm
      refine .inr ⟨rfl, 0, m, rfl, hxm, by simp [Instr.findNow, h1], ?_⟩
      exact .cons ⟨hk, hv, ha.born⟩ hr
    | false =>
      simp only [Bool.false_eq_true, if_false, Option.bind_eq_some_iff, Option.some.injEq, Prod.mk.injEq] at h
      obtain ⟨⟨l, n⟩, h2, rfl, rfl⟩ := h
      rcases putK_spec hp hk hv (i + 1) hr h2 with ⟨h3, h4, h5⟩ | ⟨h3, j, old, h4, h5, h6, h7⟩
      · exact .inl ⟨h3, by simp [Instr.findNow, h1, h4], .cons ha h5⟩
      · refine .inr ⟨h3, j + 1, old, by simpa using h4, h5, ?_, ?_⟩
        · simp only [Instr.findNow, h1, h6]
          congr 3; omega
        · exact .cons ha h7

theorem run_putK {kt : TypeId} {u : TypeDesc} {k v : AV} {x y : Value} {clock : Nat} (hu : P.underlying kt = some u) (hp : plainKey P u k = true) (hk : conc ρ σ k = some x) (hv : conc ρ σ v = some y)
    {as as' : List AEntry} {ms : List MapEntry} {b : Bool} (hr : EntsRel ρ σ as ms) (h : putK k v clock as = some (as', b)) :
      (b = true ∧ (Instr.findKey kt x ms).run P w = .ok none w ∧ EntsRel ρ σ as' (ms ++ [⟨x, y, clock⟩])) ∨
      (b = false ∧ ∃ j old, ms[j]? = some old ∧ old.key = x ∧ (Instr.findKey kt x ms).run P w = .ok (some (j, old.val)) w ∧ EntsRel ρ σ as' (ms.modify j fun e => { e with key := x, val := y })) := by
  rcases plainKey_or hp with hp | ⟨e', bb, o, n', rfl, rfl, hz, hn⟩
  · rcases putK_spec hp hk hv 0 hr h with ⟨h1, h2, h3⟩ | ⟨h1, j, old, h2, h3, h4, h5⟩
    · exact .inl ⟨h1, by simp [Instr.findKey, run_underlying hu, h2], h3⟩
    · exact .inr ⟨h1, j, old, h2, h3, by simp [Instr.findKey, run_underlying hu, h4], h5⟩
  · cases hr with
    | nil =>
      simp only [putK, Option.some.injEq, Prod.mk.injEq] at h
      obtain ⟨rfl, rfl⟩ := h
      exact .inl ⟨rfl, by simp [Instr.findKey, run_underlying hu, Instr.findNow], .cons ⟨hk, hv, rfl⟩ .nil⟩
    | cons ha hr =>
      simp only [putK, Option.bind_eq_some_iff] at h
      obtain ⟨r', hr', h⟩ := h
      obtain ⟨rfl, hkey⟩ := keyEq_ptr hr'
      simp only [if_true, Option.some.injEq, Prod.mk.injEq] at h
      obtain ⟨rfl, rfl⟩ := h
      have hak := ha.key
      rw [hkey, hk] at hak
      simp only [Option.some.injEq] at hak
      have hak := hak.symm
      exact .inr ⟨rfl, 0, _, rfl, hak, run_findKey_ptr hu hz hn hk hak, .cons ⟨hk, hv, ha.born⟩ hr⟩

theorem delK_spec {u : TypeDesc} {k : AV} {x : Value} (hp : plainKey0 u k = true) (hk : conc ρ σ k = some x) :
    ∀ {as as' : List AEntry} {ms : List MapEntry} (i : Nat), EntsRel ρ σ as ms → delK k as = some as' →
      (Instr.findNow u x ms i = some none ∧ EntsRel ρ σ as' ms) ∨ (∃ j v, j < ms.length ∧ Instr.findNow u x ms i = some (some (i + j, v)) ∧ EntsRel ρ σ as' (ms.eraseIdx j))
  | [], as', _, i, .nil, h => by simp [delK] at h; subst h; exact .inl ⟨by simp [Instr.findNow], .nil⟩
  | a :: as, as', m :: ms, i, .cons ha hr, h => by
    simp only [delK, Option.bind_eq_some_iff] at h
    obtain ⟨r, hrk, h⟩ := h
    have h1 := sameNow_keyEq hp hk ha.key hrk
    cases r with
    | true =>
      simp only [if_true, Option.some.injEq] at h; subst h
      exact .inr ⟨0, m.val, by simp, by simp [Instr.findNow, h1], hr⟩
    | false =>
      simp only [Bool.false_eq_true, if_false, Option.bind_eq_some_iff, Option.some.injEq] at h
      obtain ⟨l, h2, rfl⟩ := h
      rcases delK_spec hp hk (i + 1) hr h2 with ⟨h3, h4⟩ | ⟨j, v, h3, h4, h5⟩
      · exact .inl ⟨by simp [Instr.findNow, h1, h3], .cons ha h4⟩
      · refine .inr ⟨j + 1, v, by simpa using h3, ?_, .cons ha h5⟩
        simp only [Instr.findNow, h1, h4]
        congr 3; omega

def World.putMap (w : World) (r : Nat) (ms : Array MapEntry) (clock : Nat) : World := { w with heap := w.heap.setIfInBounds r (.map ms clock) }

theorem run_setMap {r : Nat} {ms : Array MapEntry} {c : Nat} (h : w.heap[r]? = some (.map ms c)) (ms' : Array MapEntry) (c' : Nat) :
    (setObj r (.map ms' c')).run P w = .ok () (World.putMap w r ms' c') := by simp [Go.setObj, Sem.run, h, World.putMap]

theorem Rel.putMap {K : Kp} {S S' : St} {b : Nat} {es es' : List AEntry} {c c' : Nat} {ms' : Array MapEntry} {e : Ent} (h : Rel ρ K S w σ) (hb : S.h.get b = some (.map es c)) (he : σ b = some e)
    (hset : ∃ t, S.h.set b (.map es' c') = some t ∧ S' = ⟨t, S.next⟩) (hr : EntsRel ρ σ es' ms'.toList) : Rel ρ K S' (World.putMap w e.blk ms' c') σ := by
  have hlt := (h.low b e he).2
  refine h.setObj hb he rfl hset (by simp [World.putMap]) (fun r hr => ?_) ⟨ms', ?_, hr⟩ ⟨rfl, rfl, rfl⟩
  · simp only [World.putMap]; rw [Array.getElem?_setIfInBounds_ne (Ne.symm hr)]
  · simp [World.putMap, hlt]

/-- An entry put into a map. -/
theorem run_mapUpdate {K : Kp} {S S' : St} {t kt et : TypeId} {ku : TypeDesc} {kv xv : AV} {ck cx : Value} {b : Nat} {es es' : List AEntry} {clock : Nat} {new : Bool} {m : Value} (h : Rel ρ K S w σ)
    (hu : P.underlying t = some (.map kt et)) (hku : P.underlying kt = some ku) (hp : plainKey P ku kv = true) (hk : conc ρ σ kv = some ck) (hv : conc ρ σ xv = some cx) (hm : conc ρ σ (.map b) = some m)
    (hb : S.h.get b = some (.map es clock)) (hput : putK kv xv clock es = some (es', new)) (hset : ∃ t, S.h.set b (.map es' (if new then clock + 1 else clock)) = some t ∧ S' = ⟨t, S.next⟩) :
    ∃ w', (Instr.mapUpdate t m ck cx).run P w = .ok () w' ∧ Rel ρ K S' w' σ := by
  obtain ⟨e, he, rfl⟩ := inv_map hm
  obtain ⟨e', he', ms, h1, h2⟩ := h.obj b _ hb
  rw [he] at he'
  simp only [Option.some.injEq] at he'
  subst he'
  have hget : (getObj e.blk).run P w = .ok (.map ms clock) w := by simp [getObj, Sem.run, h1]
  rcases run_putK (w := w) hku hp hk hv h2 hput with ⟨rfl, hf, h4⟩ | ⟨rfl, j, old, h3, h4, hf, h6⟩
  · refine ⟨World.putMap w e.blk (ms.push { key := ck, val := cx, born := clock }) (clock + 1), ?_, ?_⟩
    · simp only [Instr.mapUpdate, Sem.run_bind, run_underlying hu, Result.andThen_ok, hget, run_checkKey hku hp hk, hf, run_setMap h1]
    · exact h.putMap hb he (by simpa using hset) (by simpa using h4)
  · have hks : (Instr.keyThatStays (((ms[j]?).map (·.key)).getD ck) ck).run P w = .ok ck w := by
      have : ms[j]? = some old := by simpa using h3
      rw [this]
      simp only [Option.map_some, Option.getD_some, h4, Instr.keyThatStays, sameBits_self hp hk 10000, if_true, Sem.run_pure]
    refine ⟨World.putMap w e.blk (ms.modify j fun e => { e with key := ck, val := cx }) clock, ?_, ?_⟩
    · simp only [Instr.mapUpdate, Sem.run_bind, run_underlying hu, Result.andThen_ok, hget, run_checkKey hku hp hk, hf, hks, run_setMap h1]
    · exact h.putMap hb he (by simpa using hset) (by simpa using h6)

end
end Go.Sx
