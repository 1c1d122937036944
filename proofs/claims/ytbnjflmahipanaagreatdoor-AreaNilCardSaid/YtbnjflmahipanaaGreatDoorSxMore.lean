/- More operations: texts as bytes, iterators, clear, functions of the library. -/
import Derived.Test.YtbnjflmahipanaaGreatDoorSxApp
import Derived.Laws.RangeString
import Derived.Lib.ConvBytes
import Derived.Lib.Bytealg
import Derived.Lib.Overlaps
import Derived.RangeFuncRecord
namespace Go.Sx
set_option linter.unusedSimpArgs false
set_option linter.unusedVariables false

section
variable {P : Program} {ρ : Env} {σ : Sig} {w : World} {K : Kp} {S S' : St}

/-! ### cmpstring -/

theorem compare_lists : ∀ {s t : List Nat}, Small s → Small t → Lib.compareBytes (s.map UInt8.ofNat) (t.map UInt8.ofNat) = (if strLt s t then -1 else if strEq s t then 0 else 1)
  | [], [], _, _ => rfl
  | [], _ :: _, _, _ => rfl
  | _ :: _, [], _, _ => rfl
  | a :: s, b :: t, hs, ht => by
    have ha := hs a (by simp)
    have hb := ht b (by simp)
    have h1 : (UInt8.ofNat a < UInt8.ofNat b) ↔ a < b := by simp [UInt8.lt_iff_toNat_lt]; omega
    have h2 : (UInt8.ofNat b < UInt8.ofNat a) ↔ b < a := by simp [UInt8.lt_iff_toNat_lt]; omega
    have ih := compare_lists (s := s) (t := t) (fun c hc => hs c (by simp [hc])) (fun c hc => ht c (by simp [hc]))
    simp only [List.map_cons, Lib.compareBytes, ih, strLt, strEq, h1, h2]
    rcases Nat.lt_trichotomy a b with h | h | h
    · have q : Nat.blt a b = true := by simpa using h
      simp [h, q]
    · subst h
      have q : Nat.blt a a = false := Bool.eq_false_iff.2 (by rw [ne_eq, Nat.blt_eq]; omega)
      simp [q]
    · have q : Nat.blt a b = false := Bool.eq_false_iff.2 (by rw [ne_eq, Nat.blt_eq]; omega)
      have q2 : Nat.beq a b = false := by
        cases hq : Nat.beq a b with
        | false => rfl
        | true => have := Nat.eq_of_beq_eq_true hq; omega
      have q3 : ¬ a < b := by omega
      simp [h, q, q2, q3]

theorem run_cmp {s t : List Nat} (hs : Small s) (ht : Small t) :
    (Extern.BytealgCompare.compare #[.string (bytesOf s), .string (bytesOf t)]).run P w = .ok (.int .i64 (if strLt s t then -1 else if strEq s t then 0 else 1)) w := by
  rw [Lib.run_compareString]
  congr 2
  rw [← compare_lists hs ht]
  simp [bytesOf]

/-! ### Bytes of a text -/

theorem bytesWorld_alloc (w : World) (e : TypeId) (s : ByteArray) : Lib.bytesWorld w e s = w.drew.alloc (.cells (Lib.bytesCells w e s) e ((Lib.bytesCells w e s).size, (Lib.bytesCells w e s).size + 1)) := by
  have hh : (Lib.bytesWorld w e s).heap = (w.drew.alloc (.cells (Lib.bytesCells w e s) e ((Lib.bytesCells w e s).size, (Lib.bytesCells w e s).size + 1))).heap := by
    apply Array.ext_getElem?
    intro i
    simp only [World.alloc]
    rw [Array.getElem?_push]
    rcases Nat.lt_trichotomy i w.heap.size with h | h | h
    · rw [Lib.bytesWorld_at_old w e s i h]
      have : i ≠ w.drew.heap.size := by simp; omega
      rw [if_neg this]; rfl
    · subst h
      rw [Lib.bytesWorld_at_new]
      rw [if_pos (by simp)]
    · have h1 : (Lib.bytesWorld w e s).heap[i]? = none := Array.getElem?_eq_none (by rw [Lib.bytesWorld_size]; omega)
      rw [h1]
      have : i ≠ w.drew.heap.size := by simp; omega
      rw [if_neg this]
      exact (Array.getElem?_eq_none (by simp; omega)).symm
  unfold Lib.bytesWorld at hh ⊢
  unfold World.freeze at hh ⊢
  simp only [Nat.one_ne_zero, if_false] at hh ⊢
  simp only [World.alloc] at hh ⊢
  rw [hh]

theorem run_strBytes {s d e : TypeId} {x : List Nat} {id : Nat} {cx : Value} (hR : Rel ρ K S w σ) (hs : P.underlying s = some .string) (hd : P.underlying d = some (.slice e)) (he : P.underlying e = some (.int .u8))
    (hx : conc ρ σ (.str x) = some cx) (hS : S.new (.cells (x.map fun c => .int .u8 (.ofNat c)) true none none) = some (id, S')) :
    ∃ z w' σ', (convert s d cx).run P w = .ok z w' ∧ conc ρ σ' (.gslice id 0 x.length 1) = some z ∧ Rel ρ K S' w' σ' ∧ Ext S.next σ σ' ∧ S.next ≤ S'.next := by
  obtain ⟨rfl, hsm⟩ := inv_str hx
  have hrun := Lib.run_convert_string_bytes (P := P) w s d e (bytesOf x) hs hd he
  rw [bytesWorld_alloc] at hrun
  have hcap : x.length ≤ grownCap w (bytesOf x).size 0 e := by
    rw [← bytesOf_size]
    unfold grownCap
    exact Nat.le_add_right _ _
  have hsz : (Lib.bytesCells w e (bytesOf x)).size = grownCap w (bytesOf x).size 0 e := by
    simp only [Lib.bytesCells, Array.size_append, Array.size_map, Array.size_replicate]
    have : (bytesOf x).data.size = x.length := by simp [bytesOf]
    have := bytesOf_size x
    omega
  have hget : ∀ (i c : Nat), x[i]? = some c → (Lib.bytesCells w e (bytesOf x))[i]? = some (Value.int .u8 (Int.ofNat c)) := by
    intro i c hi
    have hlt := (List.getElem?_eq_some_iff.1 hi).1
    have hc := hsm c (List.mem_of_getElem? hi)
    simp only [Lib.bytesCells]
    rw [Array.getElem?_append_left (by simp [bytesOf]; exact hlt)]
    simp [bytesOf, hi]
    omega
  obtain ⟨h1, h2, h3, h4⟩ := hR.drew.new (e := ⟨w.heap.size, 0, grownCap w (bytesOf x).size 0 e, 1⟩) (ob := .cells (Lib.bytesCells w e (bytesOf x)) e ((Lib.bytesCells w e (bytesOf x)).size, (Lib.bytesCells w e (bytesOf x)).size + 1)) hS rfl (fun σ' hle => by
    have hheap : (w.drew.alloc (.cells (Lib.bytesCells w e (bytesOf x)) e ((Lib.bytesCells w e (bytesOf x)).size, (Lib.bytesCells w e (bytesOf x)).size + 1))).heap[w.heap.size]? = some (.cells (Lib.bytesCells w e (bytesOf x)) e ((Lib.bytesCells w e (bytesOf x)).size, (Lib.bytesCells w e (bytesOf x)).size + 1)) :=
      World.alloc_heap_new w.drew _
    have hfr : ∀ i, i < (Lib.bytesCells w e (bytesOf x)).size → (w.drew.alloc (.cells (Lib.bytesCells w e (bytesOf x)) e ((Lib.bytesCells w e (bytesOf x)).size, (Lib.bytesCells w e (bytesOf x)).size + 1))).frozen? ⟨w.heap.size, i, none⟩ = false := by
      intro i hi
      unfold World.frozen?
      rw [hheap]
      simp
      omega
    have hce : ∀ i, (w.drew.alloc (.cells (Lib.bytesCells w e (bytesOf x)) e ((Lib.bytesCells w e (bytesOf x)).size, (Lib.bytesCells w e (bytesOf x)).size + 1))).cell? ⟨w.heap.size, i, none⟩ = (Lib.bytesCells w e (bytesOf x))[i]? := by
      intro i
      unfold World.cell?
      rw [hheap]
      simp
    refine ⟨fun i v hi => ?_, fun _ i hi => ?_, fun t ht => by cases ht⟩
    · rw [List.getElem?_map, Option.map_eq_some_iff] at hi
      obtain ⟨c, hc, rfl⟩ := hi
      have hlt := (List.getElem?_eq_some_iff.1 hc).1
      refine ⟨.int .u8 (.ofNat c), ?_, by simp [conc], ?_⟩
      · show World.cell? _ ⟨w.heap.size, 0 + i, none⟩ = _
        rw [Nat.zero_add, hce, hget i c hc]
      · show World.frozen? _ ⟨w.heap.size, 0 + i, none⟩ = _
        rw [Nat.zero_add]
        exact hfr i (by omega)
    · have hi : i < (Lib.bytesCells w e (bytesOf x)).size := by simp only [Nat.mul_one] at hi; omega
      refine ⟨?_, ?_⟩
      · refine ⟨(Lib.bytesCells w e (bytesOf x))[i], ?_⟩
        show World.cell? _ ⟨w.heap.size, 0 + i, none⟩ = _
        rw [Nat.zero_add, hce, Array.getElem?_eq_getElem hi]
      · show World.frozen? _ ⟨w.heap.size, 0 + i, none⟩ = _
        rw [Nat.zero_add]
        exact hfr i hi)
  subst h1
  refine ⟨_, _, _, hrun, ?_, h3, h4, by omega⟩
  have hcap' : x.length ≤ grownCap w x.length 0 e := by rw [bytesOf_size] at hcap; exact hcap
  simp [conc, Sig.put, hcap', bytesOf_size]

/-! ### Iterators -/

theorem run_range {t : TypeId} {u : TypeDesc} {v : AV} {cv : Value} {hv : Hv} (hR : Rel ρ K S w σ)
    (h : (match u, v with
      | .string, .str s => fresh S (.siter s 0)
      | .map _ _, .nilm => fresh S (.miter none 0 [] 0)
      | .map _ _, .map m => (S.h.get m).bind fun ob => match ob with
        | .map _ clock => fresh S (.miter (some m) clock [] clock)
        | _ => none
      | _, _ => none) = some hv) (hu : P.underlying t = some u) (hc : conc ρ σ v = some cv) :
    ∃ v' S' z w' σ', hv = .val v' S' ∧ (Instr.range t cv).run P w = .ok z w' ∧ conc ρ σ' v' = some z ∧ Rel ρ K S' w' σ' ∧ Ext S.next σ σ' ∧ S.next ≤ S'.next := by
  have key : ∀ (o : AObj) (ob : Obj), fresh S o = some hv → (∀ σ', σ.le σ' → ObjRel ρ σ' (w.alloc ob) ⟨w.heap.size, 0, 0, 0⟩ o) → (Instr.range t cv).run P w = .ok (.pointer (some ⟨w.heap.size, 0, none⟩)) (w.alloc ob) →
      ∃ v' S' z w' σ', hv = .val v' S' ∧ (Instr.range t cv).run P w = .ok z w' ∧ conc ρ σ' v' = some z ∧ Rel ρ K S' w' σ' ∧ Ext S.next σ σ' ∧ S.next ≤ S'.next := by
    intro o ob hf ho hrun
    simp only [fresh, Option.bind_eq_some_iff, Option.some.injEq] at hf
    obtain ⟨⟨id, S1⟩, hS, rfl⟩ := hf
    obtain ⟨h1, h2, h3, h4⟩ := hR.new (e := ⟨w.heap.size, 0, 0, 0⟩) hS rfl ho
    exact ⟨_, _, _, _, _, rfl, hrun, by simp [conc, Sig.put], h3, h4, by dsimp only; omega⟩
  split at h
  · rename_i s
    obtain ⟨rfl, hs⟩ := inv_str hc
    refine key _ (.stringIter (bytesOf s) 0) h (fun σ' _ => ⟨rfl, hs, World.alloc_heap_new w _⟩) ?_
    simp [Instr.range, run_underlying hu]
  · obtain rfl := inv_nilm hc
    refine key _ (.mapIter none 0 #[] 0) h (fun σ' _ => ⟨rfl, none, rfl, World.alloc_heap_new w _⟩) ?_
    simp [Instr.range, run_underlying hu]
  · rename_i k0 e0 m
    simp only [Option.bind_eq_some_iff] at h
    obtain ⟨ob, hob, h⟩ := h
    split at h
    · rename_i es clock
      obtain ⟨e, he, rfl⟩ := inv_map hc
      obtain ⟨e', he', ms, h1, h2⟩ := hR.obj m _ hob
      rw [he] at he'
      simp only [Option.some.injEq] at he'
      subst he'
      refine key _ (.mapIter (some e.blk) clock #[] clock) h (fun σ' hle => ⟨rfl, some e.blk, by simp [iterOf, hle _ _ he], World.alloc_heap_new w _⟩) ?_
      have hget : (getObj e.blk).run P w = .ok (.map ms clock) w := by simp [getObj, Sem.run, h1]
      simp [Instr.range, run_underlying hu, hget]
    · cases h
  · cases h

theorem Rel.putIter {b : Nat} {o o' : AObj} {e : Ent} {ob : Obj} (h : Rel ρ K S w σ) (hb : S.h.get b = some o) (he : σ b = some e) (hk : o.kin = none)
    (hset : ∃ t, S.h.set b o' = some t ∧ S' = ⟨t, S.next⟩) (ho : (w.putObj e.blk ob).heap[e.blk]? = some ob → ObjRel ρ σ (w.putObj e.blk ob) e o') : Rel ρ K S' (w.putObj e.blk ob) σ := by
  have hlt := (h.low b e he).2
  exact h.setObj hb he hk hset (by simp) (fun r hr => World.putObj_heap_other hr) (ho (World.putObj_heap_same hlt)) ⟨rfl, rfl, rfl⟩

/-- A block that is written anew and forgotten. -/
theorem Rel.dropPut {b : Nat} {o : AObj} {e : Ent} {ob : Obj} (h : Rel ρ K S w σ) (hb : S.h.get b = some o) (he : σ b = some e) (hk : o.kin = none) : Rel ρ K ⟨S.h.del b, S.next⟩ (w.putObj e.blk ob) σ := by
  have hsub : ∀ b' o', (S.h.del b).get b' = some o' → S.h.get b' = some o' ∧ b' ≠ b := fun b' o' hb' => by
    rw [Tr.get_del] at hb'
    split at hb'
    · cases hb'
    · rename_i hne; exact ⟨hb', hne⟩
  have hblk : ∀ b' o' e', (S.h.del b).get b' = some o' → σ b' = some e' → e'.blk ≠ e.blk := fun b' o' e' hb' he' heq => by
    obtain ⟨h1, h2⟩ := hsub b' o' hb'
    rcases h.sep b' b o' o e' e h1 hb he' he heq with h3 | h3
    · exact h2 h3
    · rw [hk] at h3; cases h3.2
  refine ⟨fun b' e' hb' => by rw [World.putObj_size]; exact h.low b' e' hb', fun b' o' hb' => ?_, fun b1 b2 o1 o2 e1 e2 q1 q2 => h.sep b1 b2 o1 o2 e1 e2 (hsub b1 o1 q1).1 (hsub b2 o2 q2).1, fun r ob hr => ?_, fun b' o' e' r q1 => h.apart b' o' e' r (hsub b' o' q1).1, h.rest.calm ⟨rfl, rfl, rfl⟩, h.glob⟩
  · obtain ⟨e', h1, h2⟩ := h.obj b' o' (hsub b' o' hb').1
    exact ⟨e', h1, h2.world (World.putObj_heap_other (hblk b' o' e' hb' h1))⟩
  · rw [World.putObj_heap_other (fun hq => h.apart b o e r hb he (by simp [hr]) hq.symm)]
    exact h.keep r ob hr

theorem beq_nat (n m : Nat) : (n == m) = Nat.beq n m := by rw [Bool.eq_iff_iff]; simp

theorem hasN_contains (n : Nat) : ∀ l : List Nat, l.contains n = hasN n l
  | [] => rfl
  | m :: l => by
    simp only [List.contains_cons, hasN, hasN_contains n l, beq_nat]

theorem EntsRel.filter {q : Nat → Bool} : ∀ {as : List AEntry} {ms : List MapEntry}, EntsRel ρ σ as ms → EntsRel ρ σ (as.filter fun a => q a.born) (ms.filter fun m => q m.born)
  | _, _, .nil => .nil
  | a :: as, m :: ms, .cons ha hr => by
    have ih := EntsRel.filter (q := q) hr
    simp only [List.filter_cons, ha.born]
    split
    · exact .cons ha ih
    · exact ih

theorem EntsRel.all {q : Nat → Bool} : ∀ {as : List AEntry} {ms : List MapEntry}, EntsRel ρ σ as ms → (as.all fun a => q a.born) = (ms.all fun m => q m.born)
  | _, _, .nil => rfl
  | a :: as, m :: ms, .cons ha hr => by simp only [List.all_cons, ha.born, EntsRel.all hr]

theorem EntsRel.isEmpty : ∀ {as : List AEntry} {ms : List MapEntry}, EntsRel ρ σ as ms → as.isEmpty = ms.isEmpty
  | _, _, .nil => rfl
  | _, _, .cons _ _ => rfl

theorem run_anext {r : Nat} {ob : AObj} {isStr : Bool} {hv : Hv} {cv : Value} {ty : TypeId} (hR : Rel ρ K S w σ) (hob : S.h.get r = some ob) (hc : conc ρ σ (.ptr r 0) = some cv) (h : anext S r ob isStr = some hv) :
    ∃ v' S' z w', hv = .val v' S' ∧ (Instr.next cv isStr ty).run P w = .ok z w' ∧ conc ρ σ v' = some z ∧ Rel ρ K S' w' σ ∧ S'.next = S.next := by
  obtain ⟨e, he, rfl⟩ := inv_ptr hc
  obtain ⟨e', he', ho⟩ := hR.obj r _ hob
  rw [he] at he'
  simp only [Option.some.injEq] at he'
  subst he'
  have hlt := (hR.low r e he).2
  unfold anext at h
  split at h
  · rename_i s pos
    obtain ⟨h0, hs, hi⟩ := ho
    have hget : (getObj e.blk).run P w = .ok (.stringIter (bytesOf s) pos) w := by simp [getObj, Sem.run, hi]
    have hset : ∀ o, (setObj e.blk o).run P w = .ok () (w.putObj e.blk o) := fun o => by simp [setObj, Sem.run, hi, World.putObj]
    split at h
    · rename_i c hcs
      split at h
      · rename_i hc128
        have hc128 : c < 128 := by simpa using hc128
        simp only [Option.bind_eq_some_iff, Option.some.injEq] at h
        obtain ⟨t, ht, rfl⟩ := h
        have hpos : pos < s.length := (List.getElem?_eq_some_iff.1 hcs).1
        have hpb : pos < (bytesOf s).size := by rw [bytesOf_size]; exact hpos
        have hgb : (bytesOf s)[pos]'hpb = UInt8.ofNat c := by
          have := bytesOf_get s pos
          rw [getElem?_pos (bytesOf s) pos hpb, hcs] at this
          simpa using this
        have hval : ((bytesOf s)[pos]'hpb).toNat = c := by rw [hgb]; simp; omega
        have hdec := decode_ascii (bytesOf s) pos hpb (by rw [hval]; exact hc128)
        rw [hval] at hdec
        refine ⟨_, _, .tuple #[.bool true, .int .i64 (.ofNat pos), .int .i32 (.ofNat c)], w.putObj e.blk (.stringIter (bytesOf s) (pos + 1)), rfl, ?_, by simp [conc, concL], hR.putIter hob he rfl ⟨t, ht, rfl⟩ (fun hh => ⟨h0, hs, hh⟩), rfl⟩
        simp only [Instr.next, h0, Nat.add_zero, Sem.run_bind, hget, Result.andThen_ok, hpb, if_true, hdec, hset, Sem.run_pure, goInt]
        rfl
      · cases h
    · rename_i hcs
      simp only [Option.some.injEq] at h; subst h
      have hpb : ¬ pos < (bytesOf s).size := by
        rw [bytesOf_size]
        rw [List.getElem?_eq_none_iff] at hcs
        omega
      refine ⟨_, _, .tuple #[.bool false], w, rfl, ?_, by simp [conc, concL], hR, rfl⟩
      simp only [Instr.next, h0, Nat.add_zero, Sem.run_bind, hget, Result.andThen_ok, hpb, if_false, Sem.run_pure]
  · simp only [Option.some.injEq] at h; subst h
    rename_i since seen last
    obtain ⟨h0, cm, h1, hi⟩ := ho
    simp only [iterOf, Option.some.injEq] at h1
    subst h1
    have hget : (getObj e.blk).run P w = .ok (.mapIter none since seen.toArray last) w := by simp [getObj, Sem.run, hi]
    refine ⟨_, _, .tuple #[.bool false], w, rfl, ?_, by simp [conc, concL], hR, rfl⟩
    simp only [Instr.next, h0, Nat.add_zero, Sem.run_bind, hget, Result.andThen_ok, Sem.run_pure]
  · rename_i m since seen last
    simp only [Option.bind_eq_some_iff] at h
    obtain ⟨mo, hmo, h⟩ := h
    split at h
    · rename_i es clock
      obtain ⟨h0, cm, h1, hi⟩ := ho
      simp only [iterOf, Option.map_eq_some_iff] at h1
      obtain ⟨em, hem, rfl⟩ := h1
      obtain ⟨em', hem', ms, h3, h4⟩ := hR.obj m _ hmo
      rw [hem] at hem'
      simp only [Option.some.injEq] at hem'
      subst hem'
      have hget : (getObj e.blk).run P w = .ok (.mapIter (some em.blk) since seen.toArray last) w := by simp [getObj, Sem.run, hi]
      have hgetm : (getObj em.blk).run P w = .ok (.map ms clock) w := by simp [getObj, Sem.run, h3]
      have hset : ∀ o, (setObj e.blk o).run P w = .ok () (w.putObj e.blk o) := fun o => by simp [setObj, Sem.run, hi, World.putObj]
      split at h
      · cases h
      · rename_i hst
        have hst' : (!seen.toArray.isEmpty && !ms.isEmpty && ms.all (fun e => decide (last ≤ e.born))) = false := by
          have e1 := h4.isEmpty
          have e2 := h4.all (q := fun n => Nat.ble last n)
          have e3 : ms.toList.isEmpty = ms.isEmpty := by cases ms; simp
          have e4 : (ms.toList.all fun m => Nat.ble last m.born) = ms.all (fun e => decide (last ≤ e.born)) := by
            rw [← Array.all_toList]
            congr 1
            funext m
            rw [Bool.eq_iff_iff]; simp
          have e5 : seen.toArray.isEmpty = seen.isEmpty := by simp
          rw [e5, ← e3, ← e4, ← e1, ← e2]
          simpa using hst
        have hfil := h4.filter (q := fun n => !hasN n seen)
        have hl : (ms.filter fun e => !seen.toArray.contains e.born).toList = ms.toList.filter fun m => !hasN m.born seen := by
          rw [Array.toList_filter]
          congr 1
          funext m
          rw [← hasN_contains]
          simp
        split at h
        · rename_i hnil
          simp only [Option.some.injEq] at h; subst h
          rw [hnil] at hfil
          have hms : (ms.filter fun e => !seen.toArray.contains e.born) = #[] := by
            apply Array.ext'
            rw [hl]
            cases hq : ms.toList.filter fun m => !hasN m.born seen with
            | nil => rfl
            | cons _ _ => rw [hq] at hfil; cases hfil
          refine ⟨_, _, .tuple #[.bool false], w, rfl, ?_, by simp [conc, concL], hR, rfl⟩
          simp only [Instr.next, h0, Nat.add_zero, Sem.run_bind, hget, Result.andThen_ok, hgetm, hms]
          rw [if_neg (by rw [show (ms.all fun x => decide (x.born ≥ last)) = ms.all (fun e => decide (last ≤ e.born)) from rfl, hst']; simp)]
          simp [Question.forced]
        · rename_i a hone
          split at h
          · rename_i hborn
            have hborn : a.born < since := by simpa using hborn
            simp only [Option.bind_eq_some_iff, Option.some.injEq] at h
            obtain ⟨t, ht, rfl⟩ := h
            rw [hone] at hfil
            obtain ⟨mm, hmm, har⟩ : ∃ mm, (ms.filter fun e => !seen.toArray.contains e.born) = #[mm] ∧ EntRel ρ σ a mm := by
              cases hq : ms.toList.filter fun m => !hasN m.born seen with
              | nil => rw [hq] at hfil; cases hfil
              | cons x xs =>
                rw [hq] at hfil
                cases hfil with
                | cons h1 h2 =>
                  cases h2
                  exact ⟨x, by apply Array.ext'; rw [hl, hq], h1⟩
            refine ⟨_, _, .tuple #[.bool true, mm.key, mm.val], w.putObj e.blk (.mapIter (some em.blk) since (seen ++ [a.born]).toArray clock), rfl, ?_, by simp [conc, concL, har.key, har.val], hR.putIter hob he rfl ⟨t, ht, rfl⟩ (fun hh => ⟨h0, some em.blk, by simp [iterOf, hem], hh⟩), rfl⟩
            simp only [Instr.next, h0, Nat.add_zero, Sem.run_bind, hget, Result.andThen_ok, hgetm, hmm]
            rw [if_neg (by rw [show (ms.all fun x => decide (x.born ≥ last)) = ms.all (fun e => decide (last ≤ e.born)) from rfl, hst']; simp)]
            have hb2 : mm.born < since := by rw [← har.born]; exact hborn
            have hb3 : ¬ (since ≤ mm.born) := by omega
            simp [Question.forced, hb2, hb3, hset, har.born]
          · cases h
        · cases h
    · cases h
  · cases h

theorem EntsRel.find {q : Nat → Bool} {a : AEntry} : ∀ {as : List AEntry} {ms : List MapEntry}, EntsRel ρ σ as ms → (as.find? fun a => q a.born) = some a → ∃ m, (ms.find? fun m => q m.born) = some m ∧ EntRel ρ σ a m
  | _, _, .nil, h => by cases h
  | b :: as, m :: ms, .cons ha hr, h => by
    rw [List.find?_cons] at h ⊢
    rw [ha.born] at h
    cases hq : q m.born with
    | true =>
      rw [hq] at h
      simp only [Option.some.injEq] at h
      subst h
      exact ⟨m, rfl, ha⟩
    | false =>
      rw [hq] at h
      exact EntsRel.find hr h

theorem run_entry {r m : Nat} {since stepped stamp clock : Nat} {seen : List Nat} {es : List AEntry} {a : AEntry} {cv : Value} (hR : Rel ρ K S w σ) (hob : S.h.get r = some (.miter (some m) since seen stepped)) (hc : conc ρ σ (.ptr r 0) = some cv)
    (hseen : seen.getLast? = some stamp) (hmo : S.h.get m = some (.map es clock)) (hcl : clock = stepped) (hf : (es.find? fun e => Nat.beq e.born stamp) = some a) :
    ∃ z, (Instr.entry cv).run P w = .ok z w ∧ conc ρ σ (.tuple [a.key, a.val]) = some z := by
  obtain ⟨e, he, rfl⟩ := inv_ptr hc
  obtain ⟨e', he', h0, cm, h1, hi⟩ := hR.obj r _ hob
  rw [he] at he'
  simp only [Option.some.injEq] at he'
  subst he'
  simp only [iterOf, Option.map_eq_some_iff] at h1
  obtain ⟨em, hem, rfl⟩ := h1
  obtain ⟨em', hem', ms, h3, h4⟩ := hR.obj m _ hmo
  rw [hem] at hem'
  simp only [Option.some.injEq] at hem'
  subst hem'
  have hget : (getObj e.blk).run P w = .ok (.mapIter (some em.blk) since seen.toArray stepped) w := by simp [getObj, Sem.run, hi]
  have hgetm : (getObj em.blk).run P w = .ok (.map ms clock) w := by simp [getObj, Sem.run, h3]
  obtain ⟨mm, hmm, har⟩ := h4.find (q := fun n => Nat.beq n stamp) hf
  have hmm' : (ms.find? fun x => x.born == stamp) = some mm := by
    rw [← Array.find?_toList]
    rw [← hmm]
    congr 1
    funext x
    exact beq_nat _ _
  have hback : seen.toArray.back? = some stamp := by simp [hseen]
  refine ⟨.tuple #[mm.key, mm.val], ?_, by simp [conc, concL, har.key, har.val]⟩
  subst hcl
  simp [Instr.entry, h0, hget, hgetm, hback, hmm']

end
end Go.Sx
