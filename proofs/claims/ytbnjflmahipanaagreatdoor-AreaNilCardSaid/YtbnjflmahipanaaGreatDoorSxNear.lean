import Derived.Conc.HoldsTime
import Derived.LaidByTextLater
namespace Go.Sx
open Go

/-- Whether a number's bit is set. -/
def bitOn (bits f : Nat) : Bool := Nat.beq (Nat.land (Nat.shiftRight bits f) 1) 1

/-- The list at a place of a table. -/
def rowAt (tab : List (List Nat)) (f : Nat) : List Nat := (tab[f]?).getD []

/-- What a function leads to, out of a table of what each names, with the seen ones as bits. -/
def nearBits (tab : List (List Nat)) : Nat → List Nat → Nat → List Nat → List Nat
  | 0, _, _, seen => seen.reverse
  | _, [], _, seen => seen.reverse
  | n + 1, f :: todo, bits, seen =>
    match bitOn bits f with
    | true => nearBits tab n todo bits seen
    | false => nearBits tab n (rowAt tab f ++ todo) (Nat.lor bits (Nat.shiftLeft 1 f)) (f :: seen)

theorem bitOn_eq (bits f : Nat) : bitOn bits f = bits.testBit f := by
  unfold bitOn
  show Nat.beq (((bits >>> f) &&& 1)) 1 = _
  rw [Nat.testBit, Nat.and_comm]
  rcases Nat.mod_two_eq_zero_or_one (bits >>> f) with h | h
  · rw [Nat.and_comm, Nat.and_one_is_mod, h]; rfl
  · rw [Nat.and_comm, Nat.and_one_is_mod, h]; rfl

theorem nearBits_eq {P : Program} {tab : List (List Nat)} (ht : P.funcs.toList.map P.leadsTo = tab) :
    ∀ (n : Nat) (todo : List Nat) (bits : Nat) (seen : List Nat), (∀ f, bits.testBit f = seen.contains f) → P.closureVia n todo seen = nearBits tab n todo bits seen := by
  have hrow : ∀ f, (P.funcs[f]?).elim [] P.leadsTo = rowAt tab f := by
    intro f
    unfold rowAt
    rw [← ht, List.getElem?_map, Array.getElem?_toList]
    cases P.funcs[f]? <;> rfl
  intro n
  induction n with
  | zero => intro todo bits seen _; cases todo <;> rfl
  | succ n ih =>
    intro todo bits seen h
    cases todo with
    | nil => rfl
    | cons f todo =>
      rw [Program.closureVia, nearBits, bitOn_eq, h f, hrow]
      cases hc : seen.contains f with
      | true => simp only [if_true]; exact ih _ _ _ h
      | false =>
        simp only [Bool.false_eq_true, if_false]
        refine ih _ _ _ fun g => ?_
        show (bits ||| (1 <<< f)).testBit g = _
        rw [Nat.testBit_or, h g, Nat.one_shiftLeft, Nat.testBit_two_pow, List.contains_cons]
        by_cases e : f = g
        · subst e; simp
        · have : (g == f) = false := by simpa using fun q => e q.symm
          simp [e, this]

theorem closure_of {P : Program} {tab : List (List Nat)} {f n : Nat} {cl : List Nat} (ht : P.funcs.toList.map P.leadsTo = tab) (hn : 1 + (tab.map fun l => l.length + 1).sum = n) (h : nearBits tab n [f] 0 [] = cl) : P.closure f = cl := by
  have e : (P.funcs.toList.map fun g => (P.leadsTo g).length + 1) = tab.map fun l => l.length + 1 := by
    rw [← ht, List.map_map]; rfl
  unfold Program.closure
  rw [e, hn, nearBits_eq ht n [f] 0 [] (by simp), h]

theorem laidOut_of {P : Program} {n : Nat} {l : List Nat} (h0 : P.types.size = n) (h1 : List.range n = l) (h2 : l.all (rowFine P) = true) (h3 : P.globals.all (fun g => decide (g.type < n)) = true) (h4 : P.funcs.all (fun f => f.params.all fun t => decide (t < n)) = true) : laidOutB P = true := by
  unfold laidOutB
  rw [h0, h1, h2, h3, h4]
  rfl

theorem recurses_of {P : Program} {f : FuncId} (h : P.unfollowed f = true) : P.recurses f = true := by
  unfold Program.recurses
  rw [h]
  rfl

/-- A place's number. -/
def placeNo : MemPlace → Option Nat
  | .cell b o => if Nat.blt o 4096 then some (b * 4096 + o) else none
  | .map _ => none

/-- No place twice, with the seen ones as bits. -/
def distinctB : List MemPlace → Nat → Bool
  | [], _ => true
  | p :: ps, bits =>
    match placeNo p with
    | some k => match bitOn bits k with
      | true => false
      | false => distinctB ps (Nat.lor bits (Nat.shiftLeft 1 k))
    | none => false

theorem distinctB_nodup : ∀ (ps : List MemPlace) (bits : Nat), distinctB ps bits = true → ps.Nodup ∧ ∀ p ∈ ps, ∀ k, placeNo p = some k → bits.testBit k = false
  | [], _, _ => ⟨List.nodup_nil, fun _ h => by cases h⟩
  | p :: ps, bits, h => by
    unfold distinctB at h
    split at h
    · rename_i k hk
      rw [bitOn_eq] at h
      split at h
      · cases h
      · rename_i hb
        obtain ⟨h1, h2⟩ := distinctB_nodup ps _ h
        have h2' : ∀ q ∈ ps, ∀ j, placeNo q = some j → j ≠ k ∧ bits.testBit j = false := fun q hq j hj => by
          have h3 : (bits ||| (1 <<< k)).testBit j = false := h2 q hq j hj
          rw [Nat.testBit_or, Nat.one_shiftLeft, Nat.testBit_two_pow, Bool.or_eq_false_iff] at h3
          exact ⟨fun e => by simp [e] at h3, h3.1⟩
        refine ⟨List.nodup_cons.2 ⟨fun hm => (h2' p hm k hk).1 rfl, h1⟩, fun q hq j hj => ?_⟩
        rcases List.mem_cons.1 hq with e | hm
        · subst e
          rw [hk] at hj
          simp only [Option.some.injEq] at hj
          subst hj
          exact hb
        · exact (h2' q hm j hj).2
    · cases h

theorem laidRows_of {P : Program} {w : World} {fuel : Nat} {ns : List String} {ids : List MemPlace} (e : (DataW.laidRun P w fuel ns).map (·.2) = some ids) (hd : distinctB ids 0 = true) (hr : laidRowsB P w ids = true) :
    (DataW.laidRun P w fuel ns).map (fun x => decide x.2.Nodup && laidRowsB P w x.2) = some true := by
  cases h : DataW.laidRun P w fuel ns with
  | none => rw [h] at e; cases e
  | some x =>
    rw [h] at e
    simp only [Option.map_some, Option.some.injEq] at e ⊢
    rw [e, hr]
    simp [(distinctB_nodup ids 0 hd).1]
end Go.Sx
