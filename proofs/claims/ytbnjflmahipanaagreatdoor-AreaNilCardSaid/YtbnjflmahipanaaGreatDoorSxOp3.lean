/- What needs no memory: the whole. -/
import Derived.Test.YtbnjflmahipanaaGreatDoorSxOp2
namespace Go.Sx
set_option linter.unusedSimpArgs false
set_option linter.unusedVariables false

section
variable {P : Program} {ρ : Env} {σ : Sig}

theorem run_sliceData {argTypes : Array TypeId} {type : TypeId} {a : Addr} {n c : Nat} (hc : c ≠ 0) (w : World) : (Builtin.unsafeSliceData_ argTypes type #[.slice (some a) n c]).run P w = .ok (.pointer (some a)) w := by
  show (if c ≠ 0 then pure (.pointer (some a)) else _ : Sem Value).run P w = _
  rw [if_pos hc]; rfl

theorem evO_rel {ev : Operand → Option AV} {ev' : Operand → Value} (he : ER ρ σ ev ev') {x : Option Operand} {r : Option AV} (h : evO ev x = some r) :
    (∀ v, r = some v → ∃ z, x.map ev' = some z ∧ conc ρ σ v = some z) ∧ (r = none → x.map ev' = none) := by
  cases x with
  | none => simp [evO] at h; subst h; simp
  | some x =>
    simp only [evO, Option.bind_eq_some_iff, Option.some.injEq] at h
    obtain ⟨v, hv, rfl⟩ := h
    exact ⟨fun u hu => by simp at hu; subst hu; exact ⟨ev' x, rfl, he _ _ hv⟩, fun h => by cases h⟩

theorem idx_spec {n : Int} {len m : Nat} (h : idx n len = some m) : n = Int.ofNat m ∧ m < len := by
  unfold idx at h
  split at h
  · split at h
    · rename_i hl; simp at h hl; subst h; exact ⟨rfl, hl⟩
    · cases h
  · cases h

theorem fields_places {fs : Array Field} (hall : ∀ f ∈ fs.toList, ∃ n, tsize P f.type = some n) (w : World) :
    (fs.mapM fun f => (do pure (f.offset, ← sizeOf f.type) : Sem (Nat × Nat))).run P w = .ok (fs.map fun f => (f.offset, (tsize P f.type).getD 0)) w := by
  have h1 := run_mapM_fields hall w
  simp only [Array.mapM_eq_mapM_toList, Sem.run_map, h1, Result.andThen_ok]
  rw [Result.ok.injEq]
  exact ⟨by apply Array.ext'; simp, rfl⟩

set_option maxHeartbeats 4000000 in
theorem run_apure {ev : Operand → Option AV} {ev' : Operand → Value} {o : Oper} {v : AV} (he : ER ρ σ ev ev') (h : apure P ev o = some v) (w : World) :
    ∃ z, (execOp ev' o).run P w = .ok (.value z) w ∧ conc ρ σ v = some z := by
  obtain ⟨dst, op, type, pos, after, guard⟩ := o
  cases op <;> simp only [apure] at h <;> try (cases h; done)
  case move x => exact ⟨ev' x, by simp [execOp], he _ _ h⟩
  case assign x => exact ⟨ev' x, by simp [execOp], he _ _ h⟩
  case pick c a b =>
    simp only [Option.bind_eq_some_iff] at h
    obtain ⟨u, hu, h⟩ := h
    have hc := he _ _ hu
    split at h
    · exact ⟨ev' a, by simp [execOp, inv_bool hc, asBool], he _ _ h⟩
    · exact ⟨ev' b, by simp [execOp, inv_bool hc, asBool], he _ _ h⟩
    · cases h
  case build t parts =>
    simp only [Option.bind_eq_some_iff] at h
    obtain ⟨z, hz, u, hu, ps, hps, h⟩ := h
    obtain ⟨x, hx, cx⟩ := run_zeroValue (ρ := ρ) (σ := σ) hz w
    obtain ⟨xs, hxs, hxc⟩ := cells_toList cx
    have hpr := evP_rel he hps
    have hpr' : PartsRel ρ σ ps (parts.map fun (i, x) => (i, ev' x)).toList := by simpa using hpr
    split at h
    · rename_i fs
      split at h
      · cases h
      · rename_i hall
        have hall : ∀ f ∈ fs.toList, ∃ n, tsize P f.type = some n := by
          intro f hf
          have h1 : (fs.toList.all fun f => (tsize P f.type).isSome) = true := by
            cases hb : (fs.toList.all fun f => (tsize P f.type).isSome) with
            | true => rfl
            | false => exact absurd (by rw [hb]; rfl) hall
          exact Option.isSome_iff_exists.1 (List.all_eq_true.1 h1 f hf)
        simp only [Option.bind_eq_some_iff, Option.some.injEq] at h
        obtain ⟨cs, hcs, rfl⟩ := h
        obtain ⟨xs', h1, h2⟩ := fill_filled (place' := ((fs.map fun f => (f.offset, (tsize P f.type).getD 0))[·]?)) (fun i p hp => by
          simp only [Option.bind_eq_some_iff, Option.map_eq_some_iff] at hp
          obtain ⟨f, hf, n, hn, rfl⟩ := hp
          simp [hf, hn]) hpr' hcs hxs
        refine ⟨.agg xs'.toArray, ?_, by simp [conc, h2]⟩
        simp only [execOp, Instr.build, Sem.run_bind, hx, Result.andThen_ok, run_underlying hu, fields_places hall w, hxc, h1, Sem.run_pure]
    · rename_i n e
      simp only [Option.bind_eq_some_iff, Option.some.injEq] at h
      obtain ⟨sz, hsz, cs, hcs, rfl⟩ := h
      obtain ⟨xs', h1, h2⟩ := fill_filled (place' := fun i => some (i * sz, sz)) (fun i p hp => hp) hpr' hcs hxs
      refine ⟨.agg xs'.toArray, ?_, by simp [conc, h2]⟩
      simp only [execOp, Instr.build, Sem.run_bind, hx, Result.andThen_ok, run_underlying hu, run_sizeOf hsz, hxc, h1, Sem.run_pure]
    · cases h
  case nilCheck x =>
    simp only [Option.bind_eq_some_iff] at h
    obtain ⟨u, hu, h⟩ := h
    have hc := he _ _ hu
    split at h
    · simp only [Option.some.injEq] at h; subst h
      obtain ⟨e, h1, h2⟩ := inv_ptr hc
      exact ⟨ev' x, by simp [execOp, h2], hc⟩
    · simp only [Option.some.injEq] at h; subst h
      obtain ⟨f, c, h0, h1, h2⟩ := inv_func hc
      exact ⟨ev' x, by simp [execOp, h2], hc⟩
    · cases h
  case binOp op t x y yt =>
    simp only [Option.bind_eq_some_iff] at h
    obtain ⟨a, ha, b, hb, h⟩ := h
    obtain ⟨z, hz, hv⟩ := run_abin (x := x) (y := y) h (he _ _ ha) (he _ _ hb) w
    refine ⟨z, ?_, hv⟩
    simp only [execOp]
    rw [Sem.run_bind, hz]
    rfl
  case unOp op t x =>
    simp only [Option.bind_eq_some_iff] at h
    obtain ⟨a, ha, h⟩ := h
    obtain ⟨z, hz, hv⟩ := run_aun (P := P) h (he _ _ ha) w
    exact ⟨z, by simp only [execOp, Sem.run_bind, hz, Result.andThen_ok, Sem.run_pure], hv⟩
  case convert s d x =>
    simp only [Option.bind_eq_some_iff] at h
    obtain ⟨a, ha, us, hus, ud, hud, h⟩ := h
    have hc := he _ _ ha
    split at h
    · rename_i k k' n
      simp only [Option.some.injEq] at h; subst h
      refine ⟨.int k (wrapI k n), ?_, by simp [conc]⟩
      simp only [execOp, inv_int hc, convert, Sem.run_bind, run_underlying hus, run_underlying hud, Result.andThen_ok, Conv.intToInt, Sem.run_pure, wrapI_eq]
    · simp only [Option.some.injEq] at h; subst h
      obtain ⟨h1, h2⟩ := inv_str hc
      refine ⟨_, ?_, hc⟩
      simp only [execOp, h1, convert, Sem.run_bind, run_underlying hus, run_underlying hud, Result.andThen_ok, Sem.run_pure]
    · cases h
  case makeInterface t x =>
    simp only [Option.bind_eq_some_iff] at h
    obtain ⟨a, ha, u, hu, h⟩ := h
    split at h
    · cases h
    · rename_i hni
      simp only [Option.some.injEq] at h; subst h
      refine ⟨.iface t (ev' x), ?_, by simp [conc, he _ _ ha]⟩
      simp only [execOp, Instr.makeInterface, Sem.run_bind, run_underlying hu, Result.andThen_ok]
      cases u <;> first | rfl | exact absurd rfl (hni _)
  case makeFunc fn first cap =>
    simp only [Option.bind_eq_some_iff, Option.some.injEq] at h
    obtain ⟨a, ha, c, hc, rfl⟩ := h
    refine ⟨.func fn (first.map ev') (cap.map ev'), by simp [execOp, Instr.makeFunc], ?_⟩
    simp only [conc, evL_rel he ha, evL_rel he hc, Option.bind_some]
    rw [← Array.toList_map, ← Array.toList_map]
  case slice t x lo hi mx =>
    simp only [Option.bind_eq_some_iff] at h
    obtain ⟨a, ha, l, hl, hh, hhi, m, hm, h⟩ := h
    obtain ⟨l1, l2⟩ := evO_rel he hl
    obtain ⟨h1, h2⟩ := evO_rel he hhi
    obtain ⟨m1, m2⟩ := evO_rel he hm
    obtain ⟨z, hz, hv⟩ := run_aslice h (he _ _ ha) l1 l2 h1 h2 m1 m2 w
    exact ⟨z, by simp only [execOp, Sem.run_bind, hz, Result.andThen_ok, Sem.run_pure], hv⟩
  case fieldAddr s x f =>
    simp only [Option.bind_eq_some_iff] at h
    obtain ⟨u, hu, h⟩ := h
    split at h
    · rename_i fs
      simp only [Option.bind_eq_some_iff] at h
      obtain ⟨fd, hfd, n, hn, h⟩ := h
      split at h
      · cases h
      · rename_i hn0
        have hn0 : n ≠ 0 := by simpa using hn0
        simp only [Option.bind_eq_some_iff] at h
        obtain ⟨a, ha, h⟩ := h
        split at h
        · simp only [Option.some.injEq] at h; subst h
          obtain ⟨e, h1, h2⟩ := inv_ptr (he _ _ ha)
          rename_i b off
          refine ⟨.pointer (some ⟨e.blk, e.off + (off + fd.offset), none⟩), ?_, by simp [conc, h1]⟩
          simp only [execOp, h2, Instr.fieldAt, Sem.run_bind, run_underlying hu, Result.andThen_ok, hfd, Instr.sureAddr, Sem.run_pure, fieldPlace, run_sizeOf hn, hn0, if_false, add_none, Nat.add_assoc]
        · simp only [Option.some.injEq] at h; subst h
          have h2 := inv_gptr (he _ _ ha)
          rename_i b off
          refine ⟨.pointer (some ⟨b, off + fd.offset, none⟩), ?_, by simp [conc]⟩
          simp only [execOp, h2, Instr.fieldAt, Sem.run_bind, run_underlying hu, Result.andThen_ok, hfd, Instr.sureAddr, Sem.run_pure, fieldPlace, run_sizeOf hn, hn0, if_false, add_none, Nat.add_assoc]
        · cases h
    · cases h
  case field t x f =>
    simp only [Option.bind_eq_some_iff] at h
    obtain ⟨u, hu, h⟩ := h
    split at h
    · rename_i fs
      simp only [Option.bind_eq_some_iff] at h
      obtain ⟨fd, hfd, a, ha, h⟩ := h
      split at h
      · obtain ⟨xs, h1, h2⟩ := inv_agg (he _ _ ha)
        obtain ⟨z, hz, hv⟩ := run_part h h1 w
        refine ⟨z, ?_, hv⟩
        simp only [execOp, h2, Instr.field, Sem.run_bind, run_underlying hu, Result.andThen_ok, hfd, asAgg, Sem.run_pure, hz]
      · cases h
    · cases h
  case indexAddr t x i =>
    simp only [Option.bind_eq_some_iff] at h
    obtain ⟨u, hu, a, ha, iv, hiv, h⟩ := h
    have hx := he _ _ ha
    have hi := he _ _ hiv
    split at h
    · rename_i len e b off k n
      simp only [Option.bind_eq_some_iff, Option.some.injEq] at h
      obtain ⟨m, hm, sz, hsz, rfl⟩ := h
      obtain ⟨rfl, hlt⟩ := idx_spec hm
      obtain ⟨en, h1, h2⟩ := inv_ptr hx
      refine ⟨.pointer (some ⟨en.blk, en.off + (off + m * sz), none⟩), ?_, by simp [conc, h1]⟩
      have hc : (0 : Int) ≤ (m : Int) ∧ (m : Int) < (len : Int) := ⟨by omega, by omega⟩
      simp only [execOp, h2, inv_int hi, Instr.indexAt, asIntOf, Sem.run_bind, Sem.run_pure, Result.andThen_ok, run_underlying hu, Instr.sureAddr, Int.ofNat_eq_natCast, Sem.run_ite]
      rw [if_pos hc]
      simp only [run_sizeOf hsz, Result.andThen_ok, add_none, Int.toNat_natCast, Nat.add_assoc]
    · rename_i len e b off k n
      simp only [Option.bind_eq_some_iff, Option.some.injEq] at h
      obtain ⟨m, hm, sz, hsz, rfl⟩ := h
      obtain ⟨rfl, hlt⟩ := idx_spec hm
      have h2 := inv_gptr hx
      refine ⟨.pointer (some ⟨b, off + m * sz, none⟩), ?_, by simp [conc]⟩
      have hc : (0 : Int) ≤ (m : Int) ∧ (m : Int) < (len : Int) := ⟨by omega, by omega⟩
      simp only [execOp, h2, inv_int hi, Instr.indexAt, asIntOf, Sem.run_bind, Sem.run_pure, Result.andThen_ok, run_underlying hu, Instr.sureAddr, Int.ofNat_eq_natCast, Sem.run_ite]
      rw [if_pos hc]
      simp only [run_sizeOf hsz, Result.andThen_ok, add_none, Int.toNat_natCast, Nat.add_assoc]
    · rename_i e b off len cap k n
      simp only [Option.bind_eq_some_iff, Option.some.injEq] at h
      obtain ⟨m, hm, sz, hsz, rfl⟩ := h
      obtain ⟨rfl, hlt⟩ := idx_spec hm
      obtain ⟨en, h1, h2⟩ := inv_slice hx
      refine ⟨.pointer (some ⟨en.blk, en.off + (off + m * sz), none⟩), ?_, by simp [conc, h1]⟩
      have hc : (0 : Int) ≤ (m : Int) ∧ (m : Int) < (len : Int) := ⟨by omega, by omega⟩
      simp only [execOp, h2, inv_int hi, Instr.indexAt, asIntOf, Sem.run_bind, Sem.run_pure, Result.andThen_ok, run_underlying hu, Int.ofNat_eq_natCast, Sem.run_ite]
      rw [if_pos hc]
      simp only [run_sizeOf hsz, Result.andThen_ok, add_none, Int.toNat_natCast, Nat.add_assoc]
    · rename_i e b skip len esz k n
      simp only [Option.bind_eq_some_iff] at h
      obtain ⟨m, hm, sz, hsz, h⟩ := h
      split at h
      · rename_i hes
        have hes := Nat.eq_of_beq_eq_true hes
        simp only [Option.some.injEq] at h; subst h
        obtain ⟨rfl, hlt⟩ := idx_spec hm
        obtain ⟨en, h1, hcap, hesz, h2⟩ := inv_gslice hx
        refine ⟨.pointer (some ⟨en.blk, en.off + (skip * esz + m * sz), none⟩), ?_, by simp [conc, h1]⟩
        have hc : (0 : Int) ≤ (m : Int) ∧ (m : Int) < (len : Int) := ⟨by omega, by omega⟩
        simp only [execOp, h2, inv_int hi, Instr.indexAt, asIntOf, Sem.run_bind, Sem.run_pure, Result.andThen_ok, run_underlying hu, Int.ofNat_eq_natCast, Sem.run_ite]
        rw [if_pos hc]
        simp only [run_sizeOf hsz, Result.andThen_ok, add_none, Int.toNat_natCast, Nat.add_assoc]
      · cases h
    · cases h
  case index t x i =>
    simp only [Option.bind_eq_some_iff] at h
    obtain ⟨u, hu, a, ha, iv, hiv, h⟩ := h
    have hx := he _ _ ha
    have hi := he _ _ hiv
    split at h
    · rename_i len e cs k n
      simp only [Option.bind_eq_some_iff] at h
      obtain ⟨m, hm, sz, hsz, h⟩ := h
      obtain ⟨rfl, hlt⟩ := idx_spec hm
      obtain ⟨xs, h1, h2⟩ := inv_agg hx
      obtain ⟨z, hz, hv⟩ := run_part h h1 w
      refine ⟨z, ?_, hv⟩
      have hc : (0 : Int) ≤ (m : Int) ∧ (m : Int) < (len : Int) := ⟨by omega, by omega⟩
      simp only [execOp, h2, inv_int hi, Instr.index, asIntOf, Sem.run_bind, Sem.run_pure, Result.andThen_ok, run_underlying hu, Int.ofNat_eq_natCast, Sem.run_ite]
      rw [if_pos hc]
      simp only [run_sizeOf hsz, Result.andThen_ok, Int.toNat_natCast, hz]
    · rename_i s k n
      simp only [Option.bind_eq_some_iff, Option.some.injEq] at h
      obtain ⟨m, hm, c, hc, rfl⟩ := h
      obtain ⟨rfl, hlt⟩ := idx_spec hm
      obtain ⟨h2, hs⟩ := inv_str hx
      refine ⟨.int .u8 (.ofNat c), ?_, by simp [conc]⟩
      have hc0 : (0 : Int) ≤ (m : Int) := by omega
      have hcs := hs c (List.mem_of_getElem? hc)
      have e1 : (UInt8.ofNat c).toNat = c := by simp; omega
      simp only [execOp, h2, inv_int hi, Instr.index, asIntOf, Sem.run_bind, Sem.run_pure, Result.andThen_ok, run_underlying hu, Int.ofNat_eq_natCast, hc0, if_true, Int.toNat_natCast, bytesOf_get, hc, Option.map_some, e1]
    · cases h
  case extract x i =>
    simp only [Option.bind_eq_some_iff] at h
    obtain ⟨a, ha, h⟩ := h
    split at h
    · rename_i vs
      obtain ⟨xs, h1, h2⟩ := inv_tuple (he _ _ ha)
      have h3 := concL_get h1 i
      rw [h] at h3
      simp at h3
      have hl := concL_length h1
      have hlt := (List.getElem?_eq_some_iff.1 h).1
      refine ⟨xs[i]'(by omega), ?_, by rw [h3, List.getElem?_eq_getElem (by omega)]⟩
      have : xs.toArray[i]? = some (xs[i]'(by omega)) := by simp
      simp only [execOp, h2, Instr.extract, this, Sem.run_bind, Sem.run_pure, Result.andThen_ok]
    · cases h
  case call c =>
    obtain ⟨callee, args, argTypes⟩ := c
    cases callee <;> simp only at h <;> try (cases h; done)
    rename_i b
    have hargs : ∀ x, args.toList = [x] → args = #[x] := fun x hx => by apply Array.ext'; simpa using hx
    have hargs2 : ∀ x y, args.toList = [x, y] → args = #[x, y] := fun x y hx => by apply Array.ext'; simpa using hx
    split at h
    · -- len
      rename_i x hx0
      have hx0 := hargs _ hx0
      subst hx0
      simp only [Option.bind_eq_some_iff] at h
      obtain ⟨t, ht, u, hu, a, ha, h⟩ := h
      have hx := he _ _ ha
      have key : ∀ n : Nat, (Builtin.len_ argTypes type #[ev' x]).run P w = .ok (goInt n) w → v = .int .i64 (.ofNat n) →
          ∃ z, (execOp ev' ⟨dst, .call ⟨.builtin .len, #[x], argTypes⟩, type, pos, after, guard⟩).run P w = .ok (.value z) w ∧ conc ρ σ v = some z := by
        intro n hn hv
        subst hv
        refine ⟨goInt n, ?_, by simp [conc, goInt]⟩
        simp only [execOp, resolve, invoke, builtin, Sem.run_bind, Sem.run_pure, Result.andThen_ok, List.map_toArray, List.map_cons, List.map_nil, hn]
      split at h
      · rename_i s
        obtain ⟨h2, _⟩ := inv_str hx
        simp only [Option.some.injEq] at h
        exact key s.length (by simp [Builtin.len_, ht, run_underlying hu, h2, bytesOf_size]) h.symm
      · rename_i k lo hi
        obtain ⟨s, q0, q1, q2, h2⟩ := inv_ops hx
        simp only [Option.some.injEq] at h; subst h
        refine ⟨goInt s.size, ?_, ?_⟩
        · have hn : (Builtin.len_ argTypes type #[ev' x]).run P w = .ok (goInt s.size) w := by simp [Builtin.len_, ht, run_underlying hu, h2]
          simp only [execOp, resolve, invoke, builtin, Sem.run_bind, Sem.run_pure, Result.andThen_ok, List.map_toArray, List.map_cons, List.map_nil, hn]
        · simp only [conc, q0, if_pos (And.intro q1 q2)]; rfl
      · rename_i n _
        simp only [Option.some.injEq] at h
        refine key n ?_ h.symm
        generalize ev' x = q
        simp [Builtin.len_, ht, run_underlying hu]
      · rename_i e _
        simp only [Option.bind_eq_some_iff] at h
        obtain ⟨q, hq, h⟩ := h
        split at h
        · rename_i n _
          simp only [Option.some.injEq] at h
          refine key n ?_ h.symm
          simp [Builtin.len_, ht, run_underlying hu, run_underlying hq]
        · cases h
      · simp only [Option.some.injEq] at h
        exact key 0 (by simp [Builtin.len_, ht, run_underlying hu, inv_nils hx]) (by rw [← h]; rfl)
      · rename_i n _
        obtain ⟨_, _, h2⟩ := inv_slice hx
        simp only [Option.some.injEq] at h
        exact key n (by simp [Builtin.len_, ht, run_underlying hu, h2]) h.symm
      · rename_i n _
        obtain ⟨_, _, _, _, h2⟩ := inv_gslice hx
        simp only [Option.some.injEq] at h
        exact key n (by simp [Builtin.len_, ht, run_underlying hu, h2]) h.symm
      · obtain ⟨_, _, _, _, h2⟩ := inv_eslice hx
        simp only [Option.some.injEq] at h
        exact key 0 (by simp [Builtin.len_, ht, run_underlying hu, h2]) (by rw [← h]; rfl)
      · simp only [Option.some.injEq] at h
        exact key 0 (by simp [Builtin.len_, ht, run_underlying hu, inv_nilm hx]) (by rw [← h]; rfl)
      · cases h
    · -- cap
      rename_i x hx0
      have hx0 := hargs _ hx0
      subst hx0
      simp only [Option.bind_eq_some_iff] at h
      obtain ⟨t, ht, u, hu, a, ha, h⟩ := h
      have hx := he _ _ ha
      have key : ∀ n : Nat, (Builtin.cap_ argTypes type #[ev' x]).run P w = .ok (goInt n) w → v = .int .i64 (.ofNat n) →
          ∃ z, (execOp ev' ⟨dst, .call ⟨.builtin .cap, #[x], argTypes⟩, type, pos, after, guard⟩).run P w = .ok (.value z) w ∧ conc ρ σ v = some z := by
        intro n hn hv
        subst hv
        refine ⟨goInt n, ?_, by simp [conc, goInt]⟩
        simp only [execOp, resolve, invoke, builtin, Sem.run_bind, Sem.run_pure, Result.andThen_ok, List.map_toArray, List.map_cons, List.map_nil, hn]
      split at h
      · simp only [Option.some.injEq] at h
        exact key 0 (by simp [Builtin.cap_, ht, run_underlying hu, inv_nils hx]) (by rw [← h]; rfl)
      · rename_i n
        obtain ⟨_, _, h2⟩ := inv_slice hx
        simp only [Option.some.injEq] at h
        exact key n (by simp [Builtin.cap_, ht, run_underlying hu, h2]) h.symm
      · cases h
    · -- unsafe.SliceData
      rename_i x hx0
      have hx0 := hargs _ hx0
      subst hx0
      simp only [Option.bind_eq_some_iff] at h
      obtain ⟨a, ha, h⟩ := h
      have hx := he _ _ ha
      have key : ∀ z, (Builtin.unsafeSliceData_ argTypes type #[ev' x]).run P w = .ok z w → conc ρ σ v = some z →
          ∃ z, (execOp ev' ⟨dst, .call ⟨.builtin .unsafeSliceData, #[x], argTypes⟩, type, pos, after, guard⟩).run P w = .ok (.value z) w ∧ conc ρ σ v = some z := by
        intro z hz hv
        refine ⟨z, ?_, hv⟩
        simp only [execOp, resolve, invoke, builtin, Sem.run_bind, Sem.run_pure, Result.andThen_ok, List.map_toArray, List.map_cons, List.map_nil, hz]
      split at h
      · simp only [Option.some.injEq] at h; subst h
        exact key (.pointer none) (by rw [inv_nils hx]; rfl) (by simp [conc])
      · rename_i b off n c
        split at h
        · cases h
        · rename_i hc0
          have hc0 : c ≠ 0 := by simpa using hc0
          simp only [Option.some.injEq] at h; subst h
          obtain ⟨e, h1, h2⟩ := inv_slice hx
          exact key (.pointer (some ⟨e.blk, e.off + off, none⟩)) (by rw [h2]; exact run_sliceData hc0 w) (by simp [conc, h1])
      · rename_i b skip len esz
        split at h
        · cases h
        · rename_i hc0
          have hc0 : len ≠ 0 := by simpa using hc0
          simp only [Option.some.injEq] at h; subst h
          obtain ⟨e, h1, hcap, hesz, h2⟩ := inv_gslice hx
          have hc1 : e.cap - skip ≠ 0 := by omega
          exact key (.pointer (some ⟨e.blk, e.off + skip * esz, none⟩)) (by rw [h2]; exact run_sliceData hc1 w) (by simp [conc, h1])
      · cases h
    · -- max
      rename_i x y hx0
      have hx0 := hargs2 _ _ hx0
      subst hx0
      simp only [Option.bind_eq_some_iff] at h
      obtain ⟨a, ha, b, hb, h⟩ := h
      split at h
      · rename_i k m k' n
        simp only [Option.some.injEq] at h; subst h
        have h1 := inv_int (he _ _ ha)
        have h2 := inv_int (he _ _ hb)
        refine ⟨.int k (if intLt m n then n else m), ?_, by simp [conc]⟩
        simp only [execOp, resolve, invoke, builtin, Builtin.max_, Sem.run_bind, Sem.run_pure, Result.andThen_ok, List.map_toArray, List.map_cons, List.map_nil, List.foldlM_cons, List.foldlM_nil, h1, h2, Builtin.max2, intLt_eq]
        simp
      · cases h
    · -- min
      rename_i x y hx0
      have hx0 := hargs2 _ _ hx0
      subst hx0
      simp only [Option.bind_eq_some_iff] at h
      obtain ⟨a, ha, b, hb, h⟩ := h
      split at h
      · rename_i k m k' n
        simp only [Option.some.injEq] at h; subst h
        have h1 := inv_int (he _ _ ha)
        have h2 := inv_int (he _ _ hb)
        refine ⟨.int k (if intLt n m then n else m), ?_, by simp [conc]⟩
        simp only [execOp, resolve, invoke, builtin, Builtin.min_, Sem.run_bind, Sem.run_pure, Result.andThen_ok, List.map_toArray, List.map_cons, List.map_nil, List.foldlM_cons, List.foldlM_nil, h1, h2, Builtin.min2, intLt_eq]
        simp
      · cases h
    · cases h
end
end Go.Sx
