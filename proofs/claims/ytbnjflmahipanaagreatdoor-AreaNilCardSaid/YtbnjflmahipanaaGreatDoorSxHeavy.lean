/- Operations that write memory, or call. -/
import Derived.Test.YtbnjflmahipanaaGreatDoorSxMore
namespace Go.Sx
set_option linter.unusedSimpArgs false
set_option linter.unusedVariables false

/-- The functions that may be called are those that they are said to be. -/
def XtOne (P : Program) (f : FuncId) : Xt → Prop
  | .body => ∀ (args : Array Value) (w : World), (callFunc f args).run P w = .ok (.enter f args) w
  | x => ∃ fn, P.funcs[f]? = some fn ∧ (fn.name == "runtime.NumGoroutine") = false ∧ fn.body.isNone = true ∧ Extern.findNext fn = none ∧
    (match x with
     | .body => True
     | .mark0 => ∃ m, Extern.find fn = some (fun _ => do mark m; pure Extern.Race.none_)
     | .mark1 => ∃ m, Extern.find fn = some (Extern.Race.marked m)
     | .cas k => Extern.find fn = some (Extern.Atomic.casT (.int k))
     | .add k => Extern.find fn = some (Extern.Atomic.update (Op.intArith .add) k true)
     | .same => Extern.find fn = some Extern.AbiNoEscape.same
     | .cmp => Extern.find fn = some Extern.BytealgCompare.compare
     | .apart => ∃ tS tR e sz, Extern.find fn = some (Extern.SlicesOverlaps.overlaps #[tS, tS] #[tR]) ∧ P.underlying tS = some (.slice e) ∧ tsize P e = some sz)

def XtOk (P : Program) (xt : FuncId → Option Xt) : Prop := ∀ f x, xt f = some x → XtOne P f x

section
variable {P : Program} {ρ : Env} {σ : Sig} {w : World} {K : Kp} {S S' : St} {xt : FuncId → Option Xt}

theorem cell_lt {a : Addr} {v : Value} (h : w.cell? a = some v) : a.block < w.heap.size := World.block_lt_of_cell? w a h

/-- One cell written. -/
theorem Rel.write1 {b off : Nat} {v : AV} {x : Value} {e : Ent} (h : Rel ρ K S w σ) (hS : S.write b off [v] = some S') (he : σ b = some e) (hx : conc ρ σ v = some x) :
    Rel ρ K S' (w.setCell ⟨e.blk, e.off + off, none⟩ x) σ ∧ S'.next = S.next := by
  obtain ⟨w', h1, h2, h3⟩ := h.write (P := default) (xs := [x]) hS he (by simp [concL, hx])
  have h4 := run_store (default : Program) w ⟨e.blk, e.off + off, none⟩ x .plain
  simp only [St.write] at hS
  split at hS
  · cases hS
  · rename_i hone
    split at hS
    · rename_i T n z hb
      split at hS
      · rename_i hle
        have hle : off + 1 ≤ n := by simpa using hle
        obtain ⟨e', he', ho⟩ := h.obj b _ hb
        rw [he] at he'
        simp only [Option.some.injEq] at he'
        subst he'
        obtain ⟨y, z1, _, z3⟩ := ho off (by omega)
        have hone1 : v.one = true := by simpa using hone
        have h4 := h4 (by rw [oneV_oneCell']; exact conc_one hone1 hx)
        simp only [z1, z3, Bool.false_eq_true, if_false] at h4
        simp only [storeCells, add_none, Nat.add_zero, Sem.run_bind, h4, Result.andThen_ok, Sem.run_pure, Result.ok.injEq, true_and] at h1
        subst h1
        exact ⟨h2, h3⟩
      · cases hS
    simp only [Option.bind_eq_some_iff] at hS
    obtain ⟨⟨cs, g, el, S1⟩, ha, cs', hm, t, ht, _⟩ := hS
    dsimp only at hm
    obtain ⟨_, _, _, e', r4, r5, _⟩ := h.alone ha
    rw [he] at r4
    simp only [Option.some.injEq] at r4
    subst r4
    obtain ⟨_, q2, _⟩ := setMany_spec hm
    have q2 := q2 (by simp)
    simp at q2
    obtain ⟨y, z1, _, z3⟩ := r5.cell off _ (List.getElem?_eq_getElem (by omega))
    have hone1 : v.one = true := by simpa using hone
    have h4 := h4 (by rw [oneV_oneCell']; exact conc_one hone1 hx)
    simp only [z1, z3, Bool.false_eq_true, if_false] at h4
    simp only [storeCells, add_none, Nat.add_zero, Sem.run_bind, h4, Result.andThen_ok, Sem.run_pure, Result.ok.injEq, true_and] at h1
    subst h1
    exact ⟨h2, h3⟩

/-- A function of the library without a body. -/
theorem run_aext (hR : Rel ρ K S w σ) (hxt : XtOk P xt) {f : FuncId} {x : Xt} (hf : xt f = some x) {args : List AV} {v : AV} {cargs : List Value} (h : aext S x args = some (v, S')) (ha : concL ρ σ args = some cargs) :
    ∃ z w', (callFunc f cargs.toArray).run P w = .ok (.value z) w' ∧ conc ρ σ v = some z ∧ Rel ρ K S' w' σ ∧ S'.next = S.next := by
  have hx0 := hxt f x hf
  unfold aext at h
  split at h <;> (try (cases h; done)) <;> obtain ⟨fn, h1, h2, h3, h4, h5⟩ := hx0
  · simp only [Option.some.injEq, Prod.mk.injEq] at h
    obtain ⟨rfl, rfl⟩ := h
    simp [concL] at ha; subst ha
    obtain ⟨m, hm⟩ := h5
    exact ⟨.tuple #[], w, run_call_mark0 h1 h2 h3 h4 m hm w, by simp [conc, concL], hR, rfl⟩
  · simp only [Option.some.injEq, Prod.mk.injEq] at h
    obtain ⟨rfl, rfl⟩ := h
    simp only [concL, Option.bind_eq_some_iff, Option.some.injEq] at ha
    obtain ⟨y, hy, _, rfl, rfl⟩ := ha
    obtain ⟨e, _, rfl⟩ := inv_ptr hy
    obtain ⟨m, hm⟩ := h5
    exact ⟨.tuple #[], w, run_call_marked h1 h2 h3 h4 m hm _ w, by simp [conc, concL], hR, rfl⟩
  · rename_i k b off k1 x k2 y
    split at h
    · rename_i hk
      simp only [Bool.and_eq_true] at hk
      obtain rfl := kindEq_eq hk.1
      obtain rfl := kindEq_eq hk.2
      simp only [concL, Option.bind_eq_some_iff, Option.some.injEq] at ha
      obtain ⟨c1, hc1, _, ⟨c2, hc2, _, ⟨c3, hc3, _, rfl, rfl⟩, rfl⟩, rfl⟩ := ha
      obtain ⟨e, he, rfl⟩ := inv_ptr hc1
      obtain rfl := inv_int hc2
      obtain rfl := inv_int hc3
      simp only [Option.bind_eq_some_iff] at h
      obtain ⟨o, ho, h⟩ := h
      split at h
      · simp only [Option.bind_eq_some_iff] at h
        obtain ⟨c, hc, h⟩ := h
        obtain ⟨e', he', hcr⟩ := hR.obj b _ ho
        rw [he] at he'
        simp only [Option.some.injEq] at he'
        subst he'
        obtain ⟨q, q1, q2, q3⟩ := CellsRel.cell hcr off c hc
        split at h
        · rename_i k3 z
          split at h
          · rename_i hk3
            obtain rfl := kindEq_eq hk3
            obtain rfl := inv_int q2
            split at h
            · rename_i hzx
              rw [intEq_eq] at hzx
              have hzx : z = x := by simpa using hzx
              subst hzx
              simp only [Option.bind_eq_some_iff, Option.some.injEq, Prod.mk.injEq] at h
              obtain ⟨S1, hS, rfl, rfl⟩ := h
              obtain ⟨r1, r2⟩ := hR.write1 hS he (x := .int k y) (by simp [conc])
              exact ⟨.bool true, _, run_call_cas_hit h1 h2 h3 h4 k h5 q1 q3, by simp [conc], r1, r2⟩
            · rename_i hzx
              rw [intEq_eq] at hzx
              have hzx : ¬ z = x := by simpa using hzx
              simp only [Option.some.injEq, Prod.mk.injEq] at h
              obtain ⟨rfl, rfl⟩ := h
              exact ⟨.bool false, w, run_call_cas_miss h1 h2 h3 h4 k h5 q1 q3 hzx, by simp [conc], hR, rfl⟩
          · cases h
        · cases h
      · cases h
    · cases h
  · rename_i k b off k1 x
    split at h
    · rename_i hk
      obtain rfl := kindEq_eq hk
      simp only [concL, Option.bind_eq_some_iff, Option.some.injEq] at ha
      obtain ⟨c1, hc1, _, ⟨c2, hc2, _, rfl, rfl⟩, rfl⟩ := ha
      obtain ⟨e, he, rfl⟩ := inv_ptr hc1
      obtain rfl := inv_int hc2
      simp only [Option.bind_eq_some_iff] at h
      obtain ⟨o, ho, h⟩ := h
      split at h
      · simp only [Option.bind_eq_some_iff] at h
        obtain ⟨c, hc, h⟩ := h
        obtain ⟨e', he', hcr⟩ := hR.obj b _ ho
        rw [he] at he'
        simp only [Option.some.injEq] at he'
        subst he'
        obtain ⟨q, q1, q2, q3⟩ := CellsRel.cell hcr off c hc
        split at h
        · rename_i k3 z
          split at h
          · rename_i hk3
            obtain rfl := kindEq_eq hk3
            obtain rfl := inv_int q2
            simp only [Option.bind_eq_some_iff, Option.some.injEq, Prod.mk.injEq] at h
            obtain ⟨S1, hS, rfl, rfl⟩ := h
            obtain ⟨r1, r2⟩ := hR.write1 hS he (x := .int k (wrapI k (z + x))) (by simp [conc])
            exact ⟨.int k (wrapI k (z + x)), _, run_call_add h1 h2 h3 h4 k h5 q1 q3 (by simp [Op.intArith, wrapI_eq]), by simp [conc], r1, r2⟩
          · cases h
        · cases h
      · cases h
    · cases h
  · simp only [Option.some.injEq, Prod.mk.injEq] at h
    obtain ⟨rfl, rfl⟩ := h
    simp only [concL, Option.bind_eq_some_iff, Option.some.injEq] at ha
    obtain ⟨y, hy, _, rfl, rfl⟩ := ha
    refine ⟨y, w, ?_, hy, hR, rfl⟩
    rw [run_callFunc_extern h1 h2 h3 h4 h5]
    rfl
  · rename_i b1 off1 l1 c1 b2 off2 l2 c2
    split at h
    · cases h
    · rename_i hb
      have hb : b1 ≠ b2 := fun h => hb (by subst h; simp)
      simp only [Option.bind_eq_some_iff] at h
      obtain ⟨o1, ho1, o2, ho2, h⟩ := h
      split at h
      · rename_i cs1 g1 t1 cs2 g2 t2
        split at h
        · rename_i hc
          simp only [Bool.and_eq_true, Nat.blt_eq] at hc
          obtain ⟨hl1, hl2⟩ := hc
          simp only [Option.some.injEq, Prod.mk.injEq] at h
          obtain ⟨rfl, rfl⟩ := h
          simp only [concL, Option.bind_eq_some_iff, Option.some.injEq] at ha
          obtain ⟨y1, hy1, _, ⟨y2, hy2, _, rfl, rfl⟩, rfl⟩ := ha
          obtain ⟨e1, he1, rfl⟩ := inv_slice hy1
          obtain ⟨e2, he2, rfl⟩ := inv_slice hy2
          obtain ⟨tS, tR, e, sz, hx1, hx2, hx3⟩ := h5
          obtain ⟨e1', he1', hr1⟩ := hR.obj b1 _ ho1
          rw [he1] at he1'
          simp only [Option.some.injEq] at he1'
          subst he1'
          obtain ⟨e2', he2', hr2⟩ := hR.obj b2 _ ho2
          rw [he2] at he2'
          simp only [Option.some.injEq] at he2'
          subst he2'
          obtain ⟨k1, s1, _, f1⟩ := CellsRel.elem hr1 t1 rfl
          obtain ⟨k2, s2, _, f2⟩ := CellsRel.elem hr2 t2 rfl
          have hne : e1.blk ≠ e2.blk := fun heq => by
            rcases hR.sep b1 b2 _ _ e1 e2 ho1 ho2 he1 he2 heq with h | h
            · exact hb h
            · cases h.1
          obtain ⟨x1, _, _, q1⟩ := CellsRel.cell hr1 off1 _ (List.getElem?_eq_getElem hl1)
          obtain ⟨x2, p2, _, _⟩ := CellsRel.cell hr2 0 _ (List.getElem?_eq_getElem hl2)
          have hk2 : k2 ≠ 0 := by
            obtain ⟨_, n2, z3, z4, _⟩ := World.shape?_of_cell? p2
            rw [s2] at z3
            simp at z3
            simp at z4
            omega
          refine ⟨.bool false, w, ?_, by simp [conc], hR, rfl⟩
          have hov := Lib.run_overlaps_apart (P := P) w tS tR e hx2 sz (run_sizeOf hx3) ⟨e1.blk, e1.off + off1, none⟩ ⟨e2.blk, e2.off + off2, none⟩ l1 c1 l2 c2 hne t1 t2 k1 k2 s1 s2 hk2 q1 f1
          rw [run_callFunc_extern h1 h2 h3 h4 hx1]
          show Result.andThen ((Extern.SlicesOverlaps.overlaps #[tS, tS] #[tR] #[.slice (some ⟨e1.blk, e1.off + off1, none⟩) l1 c1, .slice (some ⟨e2.blk, e2.off + off2, none⟩) l2 c2]).run P w) _ = _
          rw [hov]
          rfl
        · cases h
      · cases h
  · rename_i s t
    simp only [Option.some.injEq, Prod.mk.injEq] at h
    obtain ⟨rfl, rfl⟩ := h
    simp only [concL, Option.bind_eq_some_iff, Option.some.injEq] at ha
    obtain ⟨y1, hy1, _, ⟨y2, hy2, _, rfl, rfl⟩, rfl⟩ := ha
    obtain ⟨rfl, hs1⟩ := inv_str hy1
    obtain ⟨rfl, hs2⟩ := inv_str hy2
    refine ⟨.int .i64 (if strLt s t then -1 else if strEq s t then 0 else 1), w, ?_, by simp [conc], hR, rfl⟩
    rw [run_callFunc_extern h1 h2 h3 h4 h5]
    show Result.andThen ((Extern.BytealgCompare.compare #[.string (bytesOf s), .string (bytesOf t)]).run P w) _ = _
    rw [run_cmp hs1 hs2]
    rfl

/-- Zero cells, so many times. -/
theorem zeroCells_repeated {cs : List AV} {ys : List Value} (h : concL ρ σ cs = some ys) (n : Nat) : concL ρ σ (repeated cs n) = some (Builtin.zeroCells ys.toArray n).toList := by
  have hr : ∀ m, concL ρ σ (repeated cs m) = some (repeated ys m) := by
    intro m
    induction m with
    | zero => rfl
    | succ m ih => exact concL_append h ih
  rw [hr n]
  congr 1
  have hlen : ∀ m, (repeated ys m).length = m * ys.length := by
    intro m
    induction m with
    | zero => simp [repeated]
    | succ m ih => simp [repeated, ih, Nat.add_mul]; omega
  apply List.ext_getElem?
  intro i
  have hget : ∀ m i, i < m * ys.length → (repeated ys m)[i]? = ys[i % ys.length]? := by
    intro m
    induction m with
    | zero => intro i hi; simp at hi
    | succ m ih =>
      intro i hi
      simp only [repeated]
      by_cases h1 : i < ys.length
      · rw [List.getElem?_append_left h1, Nat.mod_eq_of_lt h1]
      · rw [List.getElem?_append_right (by omega), ih (i - ys.length) (by rw [Nat.add_mul] at hi; omega)]
        congr 1
        rw [← Nat.mod_eq_sub_mod (by omega)]
  by_cases hi : i < n * ys.length
  · rw [hget n i hi]
    have hpos : 0 < ys.length := by
      rcases Nat.eq_zero_or_pos ys.length with h0 | h0
      · rw [h0] at hi; simp at hi
      · exact h0
    have hm : i % ys.length < ys.length := Nat.mod_lt _ hpos
    simp [Builtin.zeroCells, hi, List.getElem?_eq_getElem hm]
  · rw [List.getElem?_eq_none (by rw [hlen]; omega)]
    symm
    apply List.getElem?_eq_none
    simp [Builtin.zeroCells]
    omega

/-- What a heavy operation does. -/
def HvOk (P : Program) (ρ : Env) (K : Kp) (σ : Sig) (S : St) (w : World) (s : Sem Next) : Hv → Prop
  | .val v S' => ∃ nx w' σ', s.run P w = .ok nx w' ∧ ((nx = .skip ∧ v = .tuple []) ∨ ∃ z, nx = .value z ∧ conc ρ σ' v = some z) ∧ Rel ρ K S' w' σ' ∧ Ext S.next σ σ' ∧ S.next ≤ S'.next
  | .enter f args => ∃ cargs, s.run P w = .ok (.enter f cargs) w ∧ concL ρ σ args = some cargs.toList
  | .round b args => ∃ e cargs, σ b = some e ∧ s.run P w = (Instr.yield e.blk cargs).run P w ∧ concL ρ σ args = some cargs.toList

theorem run_acopy {argTypes : Array TypeId} {type : TypeId} {d x v : AV} {cd cx : Value} (hR : Rel ρ K S w σ) (h : acopy P S argTypes d x = some (v, S')) (hd : conc ρ σ d = some cd) (hx : conc ρ σ x = some cx) :
    ∃ z w', (Builtin.copy_ argTypes type #[cd, cx]).run P w = .ok z w' ∧ conc ρ σ v = some z ∧ Rel ρ K S' w' σ ∧ S'.next = S.next := by
  unfold acopy at h
  simp only [Option.bind_eq_some_iff] at h
  obtain ⟨st, h0, u, h1, h⟩ := h
  split at h
  · rename_i e
    simp only [Option.bind_eq_some_iff] at h
    obtain ⟨sz, hsz, n, hn, m, hm, cs, hcs, h⟩ := h
    have hlen := run_lenOf (P := P) hn hx w
    obtain ⟨ys, hy1, hy2, hy3⟩ := run_srcCells (P := P) hR hcs hx
    have hmin : (if Nat.ble n m then n else m) = Nat.min n m := by
      by_cases hle : n ≤ m
      · rw [if_pos (by simpa using hle)]; exact (Nat.min_eq_left hle).symm
      · rw [if_neg (by simpa using hle)]; exact (Nat.min_eq_right (by omega)).symm
    rw [hmin] at hy1
    split at h
    · simp only [Option.some.injEq, Prod.mk.injEq] at h
      obtain ⟨rfl, rfl⟩ := h
      obtain rfl := inv_nils hd
      simp [lenOf] at hm; subst hm
      refine ⟨.int .i64 0, w, ?_, by simp [conc], hR, rfl⟩
      simp only [Builtin.copy_, h0]
      have e0 : Nat.min n 0 = 0 := Nat.min_zero n
      rw [e0] at hy1
      simp [run_underlying h1, hlen, run_sizeOf hsz, hy1, goInt]
    · rename_i b off len cap
      simp only [Option.bind_eq_some_iff, Option.some.injEq, Prod.mk.injEq] at h
      obtain ⟨S1, hS, rfl, rfl⟩ := h
      obtain ⟨en, he, rfl⟩ := inv_slice hd
      simp [lenOf] at hm; subst hm
      obtain ⟨w', q1, q2, q3⟩ := hR.write (P := P) hS he hy2
      refine ⟨.int .i64 (Nat.min n len : Nat), w', ?_, by simp only [conc, hmin]; rfl, q2, q3⟩
      simp only [Builtin.copy_, h0]
      simp [run_underlying h1, hlen, run_sizeOf hsz, hy1, q1, goInt]
    · rename_i b skip len esz
      simp only [Option.bind_eq_some_iff, Option.some.injEq, Prod.mk.injEq] at h
      obtain ⟨S1, hS, rfl, rfl⟩ := h
      obtain ⟨en, he, _, _, rfl⟩ := inv_gslice hd
      simp [lenOf] at hm; subst hm
      obtain ⟨w', q1, q2, q3⟩ := hR.write (P := P) hS he hy2
      refine ⟨.int .i64 (Nat.min n len : Nat), w', ?_, by simp only [conc, hmin]; rfl, q2, q3⟩
      simp only [Builtin.copy_, h0]
      simp [run_underlying h1, hlen, run_sizeOf hsz, hy1, q1, goInt]
    · cases h
  · cases h

theorem run_loadBytes : ∀ (s : List Nat) (blk o : Nat) (acc : List Nat), Small s → (∀ j c, s[j]? = some c → w.cell? ⟨blk, o + j, none⟩ = some (.int .u8 (.ofNat c))) →
    (loadBytes ⟨blk, o, none⟩ (bytesOf acc) s.length).run P w = .ok (bytesOf (acc ++ s)) w
  | [], blk, o, acc, _, _ => by simp [loadBytes]
  | c :: s, blk, o, acc, hs, h => by
    have h0 := h 0 c rfl
    simp only [Nat.add_zero] at h0
    have hpush : (bytesOf acc).push (UInt8.ofNat c) = bytesOf (acc ++ [c]) := by simp [bytesOf, ByteArray.push]
    have ih := run_loadBytes s blk (o + 1) (acc ++ [c]) (fun d hd => hs d (by simp [hd])) (fun j d hd => by
      have := h (j + 1) d (by simpa using hd)
      rw [← this]; congr 2; omega)
    simp only [List.length_cons, loadBytes, Sem.run_bind, run_load, h0, Result.andThen_ok, add_none]
    have e : Nat.toUInt8 (Int.ofNat c).toNat = UInt8.ofNat c := rfl
    rw [e, hpush, ih]
    simp

/-- Bytes that become a text: they are given up. -/
theorem Rel.freeze {b n off : Nat} {cs : List AV} {g : Bool} {kin : Option Nat} {el : Option TypeId} {e : Ent} (h : Rel ρ K S w σ) (hb : S.h.get b = some (.cells cs g kin el)) (he : σ b = some e) :
    Rel ρ K ⟨(match kin with | some k => S.h.del k | none => S.h).del b, S.next⟩ (w.freeze ⟨e.blk, off, none⟩ n) σ := by
  have hsub : ∀ b' o', ((match kin with | some k => S.h.del k | none => S.h).del b).get b' = some o' → S.h.get b' = some o' ∧ b' ≠ b ∧ kin ≠ some b' := by
    intro b' o' hb'
    rw [Tr.get_del] at hb'
    split at hb'
    · cases hb'
    · rename_i hne
      cases kin with
      | none => exact ⟨hb', hne, by simp⟩
      | some k =>
        simp only [Tr.get_del] at hb'
        split at hb'
        · cases hb'
        · rename_i hne2
          exact ⟨hb', hne, by simp; exact fun h => hne2 h.symm⟩
  have hblk : ∀ b' o' e', ((match kin with | some k => S.h.del k | none => S.h).del b).get b' = some o' → σ b' = some e' → e'.blk ≠ e.blk := by
    intro b' o' e' hb' he' heq
    obtain ⟨h1, h2, h3⟩ := hsub b' o' hb'
    rcases h.sep b' b o' _ e' e h1 hb he' he heq with h4 | h4
    · exact h2 h4
    · simp [AObj.kin] at h4; exact h3 h4.2
  have hother : ∀ r, r ≠ e.blk → (w.freeze ⟨e.blk, off, none⟩ n).heap[r]? = w.heap[r]? := by
    intro r hr
    unfold World.freeze
    split
    · rfl
    · simp only [Array.getElem?_modify]
      rw [if_neg (Ne.symm hr)]
  have hcalm : Calm w (w.freeze ⟨e.blk, off, none⟩ n) := by
    unfold World.freeze
    split <;> exact ⟨rfl, rfl, rfl⟩
  have hsize : (w.freeze ⟨e.blk, off, none⟩ n).heap.size = w.heap.size := by
    unfold World.freeze
    split <;> simp
  refine ⟨fun b' e' hb' => by rw [hsize]; exact h.low b' e' hb', fun b' o' hb' => ?_, fun b1 b2 o1 o2 e1 e2 q1 q2 => h.sep b1 b2 o1 o2 e1 e2 (hsub b1 o1 q1).1 (hsub b2 o2 q2).1, fun r ob hr => ?_, fun b' o' e' r q1 => h.apart b' o' e' r (hsub b' o' q1).1, h.rest.calm hcalm, h.glob⟩
  · obtain ⟨e', h1, h2⟩ := h.obj b' o' (hsub b' o' hb').1
    exact ⟨e', h1, h2.world (hother _ (hblk b' o' e' hb' h1))⟩
  · rw [hother r (fun hq => h.apart b _ e r hb he (by simp [hr]) hq.symm)]
    exact h.keep r ob hr

theorem run_unsafeString {argTypes : Array TypeId} {type pt u : TypeId} {k : IntKind} {m : Nat} {a : Addr} {s : ByteArray} (h0 : argTypes[0]? = some pt) (hp : P.underlying pt = some (.pointer u)) (hm : m ≠ 0) (hm2 : m ≤ 65536)
    (hv : (variablesAt a u m).run P w = .ok true w) (hl : (loadBytes a .empty m).run P w = .ok s w) :
    (Builtin.unsafeString_ argTypes type #[.pointer (some a), .int k (.ofNat m)]).run P w = .ok (.string s) (w.freeze a m) := by
  change (do
    let n ← asInt (.int k (.ofNat m))
    let some pt := argTypes[0]? | stuck "unsafe.String: no argument types"
    if n < 0 then runtimePanic (.error "unsafe.String: len out of range")
    if n > IntKind.i64.max then unsupported (.unsafePointer "String: a length above the largest int")
    if n = 0 then pure (.string .empty)
    else if ← variablesAt a (← elemOf pt) n.toNat then do
      let s ← loadBytes a .empty n.toNat
      freeze a n.toNat
      pure (.string s)
    else unsupported (.unsafePointer "String: not so many bytes at ptr") : Sem Value).run P w = _
  have h1 : ¬ ((Int.ofNat m) < 0) := by simp
  have h2 : ¬ ((Int.ofNat m) > IntKind.i64.max) := by simp; omega
  have h3 : ¬ ((Int.ofNat m) = 0) := by simpa using hm
  have h4 : (elemOf pt).run P w = .ok u w := by simp [elemOf, run_underlying hp]
  simp only [asInt, asIntOf, Sem.run_bind, Sem.run_pure, Result.andThen_ok, h0, h1, h2, h3, if_false, h4]
  have e : (Int.ofNat m).toNat = m := rfl
  simp only [e, hv, hl, Sem.run_bind, Result.andThen_ok, if_true, run_freeze, Sem.run_pure]

theorem run_unsafeString0 {argTypes : Array TypeId} {type : TypeId} {k : IntKind} {p : Option Addr} (h0 : (argTypes[0]?).isSome) :
    (Builtin.unsafeString_ argTypes type #[.pointer p, .int k (.ofNat 0)]).run P w = .ok (.string .empty) w := by
  obtain ⟨pt, h0⟩ := Option.isSome_iff_exists.1 h0
  cases p with
  | none =>
    change (do
      let n ← asInt (.int k (.ofNat 0))
      let some _ := argTypes[0]? | stuck "unsafe.String: no argument types"
      if n < 0 then runtimePanic (.error "unsafe.String: len out of range")
      if n > IntKind.i64.max then unsupported (.unsafePointer "String: a length above the largest int")
      if n = 0 then pure (.string .empty)
      else runtimePanic (.error "unsafe.String: ptr is nil and len is not zero") : Sem Value).run P w = _
    simp [asInt, asIntOf, Sem.run_bind, Sem.run_pure, h0]
  | some a =>
    change (do
      let n ← asInt (.int k (.ofNat 0))
      let some pt := argTypes[0]? | stuck "unsafe.String: no argument types"
      if n < 0 then runtimePanic (.error "unsafe.String: len out of range")
      if n > IntKind.i64.max then unsupported (.unsafePointer "String: a length above the largest int")
      if n = 0 then pure (.string .empty)
      else if ← variablesAt a (← elemOf pt) n.toNat then do
        let s ← loadBytes a .empty n.toNat
        freeze a n.toNat
        pure (.string s)
      else unsupported (.unsafePointer "String: not so many bytes at ptr") : Sem Value).run P w = _
    simp [asInt, asIntOf, Sem.run_bind, Sem.run_pure, h0]

set_option maxHeartbeats 1000000 in
theorem run_aheavy {ev : Operand → Option AV} {ev' : Operand → Value} {o : Oper} {hv : Hv} (hR : Rel ρ K S w σ) (he : ER ρ σ ev ev') (hxt : XtOk P xt) (h : aheavy P xt ev S o = some hv) :
    HvOk P ρ K σ S w (execOp ev' o) hv := by
  obtain ⟨dst, op, type, pos, after, guard⟩ := o
  have upd : ∀ (t : TypeId) (m k x : Operand), (execOp ev' ⟨dst, op, type, pos, after, guard⟩ = (do Instr.mapUpdate t (ev' m) (ev' k) (ev' x); pure .skip : Sem Next)) →
      ((P.underlying t).bind fun u => match u with
        | .map kt _ => (P.underlying kt).bind fun ku => (ev m).bind fun mv => (ev k).bind fun kv => (ev x).bind fun xv => if plainKey P ku kv then match mv with
          | .map b => (S.h.get b).bind fun ob => match ob with
            | .map es clock => (putK kv xv clock es).bind fun (es', new) => (S.h.set b (.map es' (if new then clock + 1 else clock))).bind fun h => some (Hv.val (.tuple []) ⟨h, S.next⟩)
            | _ => none
          | _ => none else none
        | _ => none) = some hv → HvOk P ρ K σ S w (execOp ev' ⟨dst, op, type, pos, after, guard⟩) hv := by
    intro t m k x heq h
    rw [heq]
    simp only [Option.bind_eq_some_iff] at h
    obtain ⟨u, hu, h⟩ := h
    split at h
    · rename_i kt et
      simp only [Option.bind_eq_some_iff] at h
      obtain ⟨ku, hku, mv, hmv, kv, hkv, xv, hxv, h⟩ := h
      split at h
      · rename_i hp
        split at h
        · rename_i b
          simp only [Option.bind_eq_some_iff] at h
          obtain ⟨ob, hob, h⟩ := h
          split at h
          · rename_i es clock
            simp only [Option.bind_eq_some_iff, Option.some.injEq] at h
            obtain ⟨⟨es', new⟩, hput, t', ht', rfl⟩ := h
            obtain ⟨w', q1, q2⟩ := run_mapUpdate (P := P) hR hu hku hp (he _ _ hkv) (he _ _ hxv) (he _ _ hmv) hob hput ⟨t', ht', rfl⟩
            exact ⟨.skip, w', σ, by simp only [Sem.run_bind, q1, Result.andThen_ok, Sem.run_pure], .inl ⟨rfl, rfl⟩, q2, Ext.refl _ _, Nat.le_refl _⟩
          · cases h
        · cases h
      · cases h
    · cases h
  cases op <;> try (cases h; done)
  case store t x y =>
    simp only [aheavy, Option.bind_eq_some_iff] at h
    obtain ⟨v, hv1, y1, hy, h⟩ := h
    split at h
    · rename_i b off
      simp only [Option.bind_eq_some_iff] at h
      obtain ⟨n, hn, h⟩ := h
      split at h
      · rename_i hl
        have hl := Nat.eq_of_beq_eq_true hl
        simp only [Option.bind_eq_some_iff, Option.some.injEq] at h
        obtain ⟨S1, hS, rfl⟩ := h
        obtain ⟨e, he1, he2⟩ := inv_ptr (he _ _ hv1)
        obtain ⟨ys, h1, h2⟩ := cells_toList (he _ _ hy)
        have hlen := concL_length h1
        obtain ⟨w', q1, q2, q3⟩ := hR.write (P := P) hS he1 h1
        refine ⟨.skip, w', σ, ?_, .inl ⟨rfl, rfl⟩, q2, Ext.refl _ _, by omega⟩
        have hsz : ¬ ((ev' y).cells.size ≠ n) := by rw [h2]; simp; omega
        simp only [execOp, he2, Instr.storeAt, Instr.sureAddr, storeVar, Sem.run_bind, Sem.run_pure, Result.andThen_ok, run_sizeOf hn, hsz, if_false]
        rw [h2]
        simp only [q1, Result.andThen_ok]
      · cases h
    · cases h
  case convert s d x =>
    simp only [aheavy, Option.bind_eq_some_iff] at h
    obtain ⟨us, hus, ud, hud, v, hv1, h⟩ := h
    have hx := he _ _ hv1
    split at h
    · rename_i e s0
      simp only [Option.bind_eq_some_iff] at h
      obtain ⟨ue, hue, h⟩ := h
      split at h
      · simp only [Option.bind_eq_some_iff, Option.some.injEq] at h
        obtain ⟨⟨id, S1⟩, hS, rfl⟩ := h
        obtain ⟨z, w', σ', q1, q2, q3, q4, q5⟩ := run_strBytes (P := P) hR hus hud hue hx hS
        exact ⟨.value z, w', σ', by simp only [execOp, Sem.run_bind, q1, Result.andThen_ok, Sem.run_pure], .inr ⟨z, rfl, q2⟩, q3, q4, q5⟩
      · cases h
    · cases h
  case range t x =>
    simp only [aheavy, Option.bind_eq_some_iff] at h
    obtain ⟨u, hu, v, hv1, h⟩ := h
    obtain ⟨v', S1, z, w', σ', rfl, q1, q2, q3, q4, q5⟩ := run_range (P := P) hR h hu (he _ _ hv1)
    exact ⟨.value z, w', σ', by simp only [execOp, Sem.run_bind, q1, Result.andThen_ok, Sem.run_pure], .inr ⟨z, rfl, q2⟩, q3, q4, q5⟩
  case next it isStr =>
    simp only [aheavy, Option.bind_eq_some_iff] at h
    obtain ⟨v, hv1, h⟩ := h
    split at h
    · rename_i r off
      split at h
      · rename_i hoff
        have hoff := Nat.eq_of_beq_eq_true hoff
        subst hoff
        simp only [Option.bind_eq_some_iff] at h
        obtain ⟨ob, hob, h⟩ := h
        obtain ⟨v', S1, z, w', rfl, q1, q2, q3, q4⟩ := run_anext (P := P) (ty := type) hR hob (he _ _ hv1) h
        exact ⟨.value z, w', σ, by simp only [execOp, Sem.run_bind, q1, Result.andThen_ok, Sem.run_pure], .inr ⟨z, rfl, q2⟩, q3, Ext.refl _ _, by omega⟩
      · cases h
    · cases h
  case entry it =>
    simp only [aheavy, Option.bind_eq_some_iff] at h
    obtain ⟨v, hv1, h⟩ := h
    split at h
    · rename_i r off
      split at h
      · rename_i hoff
        have hoff := Nat.eq_of_beq_eq_true hoff
        subst hoff
        simp only [Option.bind_eq_some_iff] at h
        obtain ⟨ob, hob, h⟩ := h
        split at h
        · simp only [Option.bind_eq_some_iff] at h
          obtain ⟨stamp, hst, mo, hmo, h⟩ := h
          split at h
          · split at h
            · rename_i hcl
              simp only [Option.bind_eq_some_iff, Option.some.injEq] at h
              obtain ⟨a, ha, rfl⟩ := h
              obtain ⟨z, q1, q2⟩ := run_entry (P := P) hR hob (he _ _ hv1) hst hmo (Nat.eq_of_beq_eq_true hcl) ha
              exact ⟨.value z, w, σ, by simp only [execOp, Sem.run_bind, q1, Result.andThen_ok, Sem.run_pure], .inr ⟨z, rfl, q2⟩, hR, Ext.refl _ _, Nat.le_refl _⟩
            · cases h
          · cases h
        · cases h
      · cases h
    · cases h
  case mapUpdate t m k x => exact upd t m k x rfl h
  case insert t m k x => exact upd t m k x rfl h
  case call c =>
    obtain ⟨callee, args, argTypes⟩ := c
    have hargs2 : ∀ x y, args.toList = [x, y] → args = #[x, y] := fun x y hx => by apply Array.ext'; simpa using hx
    cases callee
    case invoke => cases h
    case value f =>
      simp only [aheavy, Option.bind_eq_some_iff] at h
      obtain ⟨fv, hfv, as, has, h⟩ := h
      split at h
      · rename_i g first cap
        obtain ⟨f', c', h1, h2, h3⟩ := inv_func (he _ _ hfv)
        have hall : concL ρ σ (first ++ as ++ cap) = some (f' ++ args.toList.map ev' ++ c') := concL_append (concL_append h1 (evL_rel he has)) h2
        have hex : execOp ev' ⟨dst, .call ⟨.value f, args, argTypes⟩, type, pos, after, guard⟩ = (do let d ← resolve ev' ⟨.value f, args, argTypes⟩ type; invoke d.target d.args) := rfl
        have hcall : (execOp ev' ⟨dst, .call ⟨.value f, args, argTypes⟩, type, pos, after, guard⟩).run P w = (callFunc g (f' ++ args.toList.map ev' ++ c').toArray).run P w := by
          rw [hex]
          simp only [resolve, h3, Deferred.ofValue, Sem.run_bind, Sem.run_pure, Result.andThen_ok, invoke]
          congr 1
          congr 1
          apply Array.ext'
          simp
        unfold acallF at h
        split at h
        · rename_i hx
          simp only [Option.some.injEq] at h
          subst h
          exact ⟨_, by rw [hcall]; exact hxt g .body hx _ _, by simpa using hall⟩
        · rename_i x _ hx
          simp only [Option.bind_eq_some_iff, Option.some.injEq] at h
          obtain ⟨⟨v, S1⟩, hS, rfl⟩ := h
          obtain ⟨z, w', q1, q2, q3, q4⟩ := run_aext hR hxt hx hS hall
          exact ⟨.value z, w', σ, by rw [hcall]; exact q1, .inr ⟨z, rfl, q2⟩, q3, Ext.refl _ _, by simp only; omega⟩
        · cases h
      · rename_i b
        simp only [Option.some.injEq] at h
        subst h
        obtain ⟨e, he1, he2⟩ := inv_yld (he _ _ hfv)
        refine ⟨e, args.map ev', he1, ?_, by simpa using evL_rel he has⟩
        have hex : execOp ev' ⟨dst, .call ⟨.value f, args, argTypes⟩, type, pos, after, guard⟩ = (do let d ← resolve ev' ⟨.value f, args, argTypes⟩ type; invoke d.target d.args) := rfl
        rw [hex]
        simp only [resolve, he2, Deferred.ofValue, Sem.run_bind, Sem.run_pure, Result.andThen_ok, invoke]
        congr 2
        apply Array.ext'
        simp
      · cases h
    case builtin b =>
      have hex : ∀ x y, args = #[x, y] → execOp ev' ⟨dst, .call ⟨.builtin b, args, argTypes⟩, type, pos, after, guard⟩ = (do let d ← resolve ev' ⟨.builtin b, args, argTypes⟩ type; invoke d.target d.args) := fun _ _ _ => rfl
      cases b <;> try (cases h; done)
      case append =>
        simp only [aheavy] at h
        match hl : args.toList, h with
        | [], h | [_], h | _ :: _ :: _ :: _, h => cases h
        | [s, x], h =>
          have hx0 := hargs2 _ _ hl
          subst hx0
          simp only [Option.bind_eq_some_iff, Option.some.injEq] at h
          obtain ⟨sv, hsv, xv, hxv, ⟨v, S1⟩, hS, rfl⟩ := h
          obtain ⟨z, w', σ', q1, q2, q3, q4, q5⟩ := run_aappend (P := P) (type := type) hR hS (he _ _ hsv) (he _ _ hxv)
          refine ⟨.value z, w', σ', ?_, .inr ⟨z, rfl, q2⟩, q3, q4, q5⟩
          simp only [execOp, resolve, invoke, builtin, Sem.run_bind, Sem.run_pure, Result.andThen_ok, List.map_toArray, List.map_cons, List.map_nil, q1]
      case copy =>
        simp only [aheavy] at h
        match hl : args.toList, h with
        | [], h | [_], h | _ :: _ :: _ :: _, h => cases h
        | [s, x], h =>
          have hx0 := hargs2 _ _ hl
          subst hx0
          simp only [Option.bind_eq_some_iff, Option.some.injEq] at h
          obtain ⟨sv, hsv, xv, hxv, ⟨v, S1⟩, hS, rfl⟩ := h
          obtain ⟨z, w', q1, q2, q3, q4⟩ := run_acopy (P := P) (type := type) hR hS (he _ _ hsv) (he _ _ hxv)
          refine ⟨.value z, w', σ, ?_, .inr ⟨z, rfl, q2⟩, q3, Ext.refl _ _, by simp only; omega⟩
          simp only [execOp, resolve, invoke, builtin, Sem.run_bind, Sem.run_pure, Result.andThen_ok, List.map_toArray, List.map_cons, List.map_nil, q1]
      case clear =>
        simp only [aheavy] at h
        match hl : args.toList, h with
        | [], h | _ :: _ :: _, h => cases h
        | [x], h =>
          have hx0 : args = #[x] := by apply Array.ext'; simpa using hl
          subst hx0
          simp only [Option.bind_eq_some_iff] at h
          obtain ⟨t, ht, u, hu, xv, hxv, h⟩ := h
          have hx := he _ _ hxv
          have fin : ∀ (w' : World) (S1 : St), (Builtin.clear_ argTypes type #[ev' x]).run P w = .ok (.tuple #[]) w' → Rel ρ K S1 w' σ → S1.next = S.next →
              HvOk P ρ K σ S w (execOp ev' ⟨dst, .call ⟨.builtin .clear, #[x], argTypes⟩, type, pos, after, guard⟩) (.val (.tuple []) S1) := by
            intro w' S1 hrun hR1 hn
            refine ⟨.value (.tuple #[]), w', σ, ?_, .inr ⟨_, rfl, by simp [conc, concL]⟩, hR1, Ext.refl _ _, by omega⟩
            simp only [execOp, resolve, invoke, builtin, Sem.run_bind, Sem.run_pure, Result.andThen_ok, List.map_toArray, List.map_cons, List.map_nil, hrun]
          have many : ∀ (e : TypeId) (b off n cap : Nat) (en : Ent) (z : AV) (S1 : St), P.underlying t = some (.slice e) → n ≠ 0 → ev' x = .slice (some ⟨en.blk, en.off + off, none⟩) n cap → σ b = some en → zeroOf P e = some z → S.write b off (repeated z.cellsOf n) = some S1 →
              HvOk P ρ K σ S w (execOp ev' ⟨dst, .call ⟨.builtin .clear, #[x], argTypes⟩, type, pos, after, guard⟩) (.val (.tuple []) S1) := by
            intro e b off n cap en z S1 hue hn hx2 hen hz hS
            obtain ⟨y, hy, cy⟩ := run_zeroValue (ρ := ρ) (σ := σ) hz w
            obtain ⟨ys, hy1, hy2⟩ := cells_toList cy
            have hrep : concL ρ σ (repeated z.cellsOf n) = some (Builtin.zeroCells y.cells n).toList := by rw [hy2]; exact zeroCells_repeated hy1 n
            obtain ⟨w', q1, q2, q3⟩ := hR.write (P := P) hS hen hrep
            refine fin w' S1 ?_ q2 q3
            obtain ⟨n', rfl⟩ : ∃ n', n = n' + 1 := ⟨n - 1, by omega⟩
            simp only [Builtin.clear_, ht, hx2]
            simp [run_underlying hue, hy, q1]
          split at h
          · simp only [Option.some.injEq] at h; subst h
            refine fin w S ?_ hR rfl
            simp only [Builtin.clear_, ht, inv_nils hx]
            simp [run_underlying hu]
          · simp only [Option.some.injEq] at h; subst h
            obtain ⟨_, _, _, _, hx2⟩ := inv_eslice hx
            refine fin w S ?_ hR rfl
            simp only [Builtin.clear_, ht, hx2]
            simp [run_underlying hu]
          · rename_i e b off n cap
            obtain ⟨en, hen, hx2⟩ := inv_slice hx
            split at h
            · rename_i hn
              have hn := Nat.eq_of_beq_eq_true hn
              subst hn
              simp only [Option.some.injEq] at h; subst h
              refine fin w S ?_ hR rfl
              simp only [Builtin.clear_, ht, hx2]
              simp [run_underlying hu]
            · rename_i hn
              have hn : n ≠ 0 := fun h => hn (by subst h; rfl)
              simp only [Option.bind_eq_some_iff, Option.some.injEq] at h
              obtain ⟨z, hz, S1, hS, rfl⟩ := h
              exact many e b off n cap en z S1 hu hn hx2 hen hz hS
          · rename_i e b skip n esz
            obtain ⟨en, hen, _, _, hx2⟩ := inv_gslice hx
            split at h
            · rename_i hn
              have hn := Nat.eq_of_beq_eq_true hn
              subst hn
              simp only [Option.some.injEq] at h; subst h
              refine fin w S ?_ hR rfl
              simp only [Builtin.clear_, ht, hx2]
              simp [run_underlying hu]
            · rename_i hn
              have hn : n ≠ 0 := fun h => hn (by subst h; rfl)
              simp only [Option.bind_eq_some_iff, Option.some.injEq] at h
              obtain ⟨z, hz, S1, hS, rfl⟩ := h
              exact many e b (skip * esz) n _ en z S1 hu hn hx2 hen hz hS
          · cases h
      case delete =>
        simp only [aheavy] at h
        match hl : args.toList, h with
        | [], h | [_], h | _ :: _ :: _ :: _, h => cases h
        | [m, k], h =>
          have hx0 := hargs2 _ _ hl
          subst hx0
          simp only [Option.bind_eq_some_iff] at h
          obtain ⟨t, ht, u, hu, h⟩ := h
          split at h
          · rename_i kt et
            simp only [Option.bind_eq_some_iff] at h
            obtain ⟨ku, hku, mv, hmv, kv, hkv, h⟩ := h
            split at h
            · rename_i hp
              split at h
              · simp only [Option.some.injEq] at h; subst h
                refine ⟨.value (.tuple #[]), w, σ, ?_, .inr ⟨_, rfl, by simp [conc, concL]⟩, hR, Ext.refl _ _, Nat.le_refl _⟩
                simp only [execOp, resolve, invoke, builtin, Builtin.delete_, Sem.run_bind, Sem.run_pure, Result.andThen_ok, List.map_toArray, List.map_cons, List.map_nil, inv_nilm (he _ _ hmv)]
                simp [ht, run_underlying hu, run_checkKey0 hku hp (he _ _ hkv)]
              · rename_i b
                simp only [Option.bind_eq_some_iff] at h
                obtain ⟨ob, hob, h⟩ := h
                split at h
                · rename_i es clock
                  simp only [Option.bind_eq_some_iff, Option.some.injEq] at h
                  obtain ⟨es', hdel, t', ht', rfl⟩ := h
                  obtain ⟨e, he1, he2⟩ := inv_map (he _ _ hmv)
                  obtain ⟨e', he', ms, h1, h2⟩ := hR.obj b _ hob
                  rw [he1] at he'
                  simp only [Option.some.injEq] at he'
                  subst he'
                  have hget : (getObj e.blk).run P w = .ok (.map ms clock) w := by simp [getObj, Sem.run, h1]
                  rcases delK_spec hp (he _ _ hkv) 0 h2 hdel with ⟨h3, h4⟩ | ⟨j, vv, h3, h4, h5⟩
                  · have hf : (Instr.findKey kt (ev' k) ms.toList).run P w = .ok none w := by simp [Instr.findKey, run_underlying hku, h3]
                    refine ⟨.value (.tuple #[]), World.putMap w e.blk ms clock, σ, ?_, .inr ⟨_, rfl, by simp [conc, concL]⟩, hR.putMap hob he1 ⟨t', ht', rfl⟩ h4, Ext.refl _ _, Nat.le_refl _⟩
                    simp only [execOp, resolve, invoke, builtin, Builtin.delete_, Sem.run_bind, Sem.run_pure, Result.andThen_ok, List.map_toArray, List.map_cons, List.map_nil, he2]
                    simp [ht, run_underlying hu, hget, run_checkKey0 hku hp (he _ _ hkv), hf, run_setMap h1]
                  · have hf : (Instr.findKey kt (ev' k) ms.toList).run P w = .ok (some (j, vv)) w := by simp [Instr.findKey, run_underlying hku, h4]
                    refine ⟨.value (.tuple #[]), World.putMap w e.blk (ms.eraseIdxIfInBounds j) clock, σ, ?_, .inr ⟨_, rfl, by simp [conc, concL]⟩, hR.putMap hob he1 ⟨t', ht', rfl⟩ ?_, Ext.refl _ _, Nat.le_refl _⟩
                    · simp only [execOp, resolve, invoke, builtin, Builtin.delete_, Sem.run_bind, Sem.run_pure, Result.andThen_ok, List.map_toArray, List.map_cons, List.map_nil, he2]
                      simp [ht, run_underlying hu, hget, run_checkKey0 hku hp (he _ _ hkv), hf, run_setMap h1]
                    · have : (ms.eraseIdxIfInBounds j).toList = ms.toList.eraseIdx j := by
                        unfold Array.eraseIdxIfInBounds
                        rw [dif_pos (by simpa using h3)]
                        simp
                      rw [this]; exact h5
                · cases h
              · cases h
            · cases h
          · cases h
      case unsafeString =>
        simp only [aheavy] at h
        match hl : args.toList, h with
        | [], h | [_], h | _ :: _ :: _ :: _, h => cases h
        | [p, n], h =>
          have hx0 := hargs2 _ _ hl
          subst hx0
          simp only [Option.bind_eq_some_iff] at h
          obtain ⟨pv, hpv, nv, hnv, h⟩ := h
          split at h
          · rename_i k
            simp only [Option.bind_eq_some_iff, Option.some.injEq] at h
            obtain ⟨pt, hpt, rfl⟩ := h
            have hrun := run_unsafeString0 (P := P) (w := w) (type := type) (k := k) (p := none) (argTypes := argTypes) (by rw [hpt]; rfl)
            exact ⟨_, w, σ, by simp only [execOp, resolve, invoke, builtin, Sem.run_bind, Sem.run_pure, Result.andThen_ok, List.map_toArray, List.map_cons, List.map_nil, inv_nilp (he _ _ hpv), inv_int (he _ _ hnv), hrun]; rfl, .inr ⟨_, rfl, rfl⟩, hR, Ext.refl _ _, Nat.le_refl _⟩
          · rename_i b off k m
            simp only [Option.bind_eq_some_iff] at h
            obtain ⟨pt, hpt, pu, hpu, h⟩ := h
            split at h
            · rename_i u
              split at h
              · rename_i hm
                have hm : m = 0 := Nat.eq_of_beq_eq_true hm
                subst hm
                simp only [Option.some.injEq] at h; subst h
                obtain ⟨e, he1, he2⟩ := inv_ptr (he _ _ hpv)
                have hrun := run_unsafeString0 (P := P) (w := w) (type := type) (k := k) (p := some ⟨e.blk, e.off + off, none⟩) (argTypes := argTypes) (by rw [hpt]; rfl)
                exact ⟨_, w, σ, by simp only [execOp, resolve, invoke, builtin, Sem.run_bind, Sem.run_pure, Result.andThen_ok, List.map_toArray, List.map_cons, List.map_nil, he2, inv_int (he _ _ hnv), hrun]; rfl, .inr ⟨_, rfl, rfl⟩, hR, Ext.refl _ _, Nat.le_refl _⟩
              · rename_i hm
                have hm : m ≠ 0 := fun h => hm (by rw [h]; rfl)
                simp only [Option.bind_eq_some_iff] at h
                obtain ⟨ob, hob, h⟩ := h
                split at h
                · rename_i cs kin t
                  split at h
                  · rename_i hc
                    simp only [Bool.and_eq_true, Nat.ble_eq] at hc
                    obtain ⟨⟨c1, c2⟩, c3⟩ := hc
                    have c1 := Nat.eq_of_beq_eq_true c1
                    have c2 := Nat.eq_of_beq_eq_true c2
                    subst c1
                    simp only [Option.bind_eq_some_iff, Option.some.injEq] at h
                    obtain ⟨l, hl, s, hs, rfl⟩ := h
                    obtain ⟨e, he1, he2⟩ := inv_ptr (he _ _ hpv)
                    obtain ⟨e', he', hcr⟩ := hR.obj b _ hob
                    rw [he1] at he'
                    simp only [Option.some.injEq] at he'
                    subst he'
                    obtain ⟨q1, q2⟩ := bytesL_spec hs
                    obtain ⟨xs, x1, x2, x3⟩ := CellsRel.many hcr hl
                    rw [q1, concL_ints] at x1
                    simp only [Option.some.injEq] at x1
                    have hsl : s.length = m := by rw [← x2, ← x1]; simp
                    have hload := run_loadBytes (P := P) (w := w) s e.blk (e.off + off) [] q2 (fun j c hj => by
                      have hjl := (List.getElem?_eq_some_iff.1 hj).1
                      rw [x3 j (by omega), ← x1]
                      simp [hj])
                    rw [hsl] at hload
                    simp only [List.nil_append] at hload
                    obtain ⟨cc, z1, _⟩ := hcr.elem t rfl
                    have hlast := x3 (m - 1) (by omega)
                    have hin : e.off + off + m ≤ cc := by
                      have : (xs[m - 1]?).isSome := by simp; omega
                      obtain ⟨y, hy⟩ := Option.isSome_iff_exists.1 this
                      rw [hy] at hlast
                      obtain ⟨_, n2, z3, z4, _⟩ := World.shape?_of_cell? hlast
                      rw [z1] at z3
                      simp at z3
                      simp at z4
                      omega
                    have hvar : (variablesAt ⟨e.blk, e.off + off, none⟩ t m).run P w = .ok true w := by
                      have hla : liesAt P P.depth t (cc / P.cellsOf t) (e.off + off) t m = true := by
                        rw [c2, Nat.div_one]
                        have hd : ∃ d, P.depth = d + 1 := ⟨P.depth - 1, by unfold Program.depth; omega⟩
                        obtain ⟨d, hd⟩ := hd
                        have hrow : rowAt P (sameLayout P P.depth · t) P.depth t cc (e.off + off) m = true := by
                          have hsame : sameLayout P P.depth t t = true := by rw [hd]; simp [sameLayout]
                          rw [hd]
                          simp only [rowAt, c2]
                          simp [hsame, hin, Nat.mod_one]
                          left
                          rw [hd] at hsame
                          exact hsame
                        rw [hd] at hrow ⊢
                        simp only [liesAt]
                        rw [hd]
                        simp [hrow]
                      simp [variablesAt, z1, hla]
                    refine ⟨.value (.string (bytesOf s)), _, σ, ?_, .inr ⟨_, rfl, by simp only [conc]; rw [if_pos (small_all q2)]⟩, hR.freeze (n := m) (off := e.off + off) hob he1, Ext.refl _ _, Nat.le_refl _⟩
                    have hrun := run_unsafeString (type := type) (k := k) (a := ⟨e.blk, e.off + off, none⟩) hpt hpu hm c3 hvar hload
                    simp only [execOp, resolve, invoke, builtin, Sem.run_bind, Sem.run_pure, Result.andThen_ok, List.map_toArray, List.map_cons, List.map_nil, he2, inv_int (he _ _ hnv), hrun]
                  · cases h
                · cases h
            · cases h
          · cases h

end
end Go.Sx
