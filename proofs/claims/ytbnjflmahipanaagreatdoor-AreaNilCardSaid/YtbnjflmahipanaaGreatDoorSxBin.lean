/- Binary and unary operations. -/
import Derived.Test.YtbnjflmahipanaaGreatDoorSxPure
namespace Go.Sx
set_option linter.unusedSimpArgs false
set_option linter.unusedVariables false

section
variable {P : Program} {ρ : Env} {σ : Sig}

theorem not_lt_le (a b : Int) : (!decide (a < b)) = decide (b ≤ a) := by rw [Bool.eq_iff_iff]; simp

theorem ofInt_nat (n x : Nat) : BitVec.ofInt n (Int.ofNat x) = BitVec.ofNat n x := by
  show BitVec.ofInt n ((x : Nat) : Int) = _
  simp

theorem wrap_mod (k : IntKind) (n : Int) : k.wrap n = k.wrap (n % 2 ^ k.bits) := by
  unfold IntKind.wrap
  simp

theorem lowBits_toNat (k : IntKind) (n : Int) : (BitVec.ofInt k.bits n).toNat = lowBits k n := by
  cases n with
  | ofNat x => rw [ofInt_nat]; simp [lowBits]
  | negSucc m =>
    have h0 : 0 < 2 ^ k.bits := Nat.two_pow_pos _
    have hm : m % 2 ^ k.bits < 2 ^ k.bits := Nat.mod_lt _ h0
    rw [BitVec.toNat_ofInt]
    show (Int.negSucc m % ((2 ^ k.bits : Nat) : Int)).toNat = 2 ^ k.bits - 1 - m % 2 ^ k.bits
    rw [Int.negSucc_emod _ (by exact_mod_cast h0)]
    omega

theorem wrap_not (k : IntKind) (n : Int) : k.wrap (((BitVec.ofInt k.bits (if k.signed then -1 else k.max)) ^^^ (BitVec.ofInt k.bits n)).toNat : Int) = k.wrap (-1 - n) := by
  have h1 : BitVec.ofInt k.bits (if k.signed then -1 else k.max) = BitVec.allOnes k.bits := by
    cases k <;> decide
  rw [h1, BitVec.allOnes_xor, wrap_mod k (-1 - n)]
  have h0 : 0 < 2 ^ k.bits := Nat.two_pow_pos _
  congr 1
  rw [BitVec.toNat_not, lowBits_toNat]
  cases n with
  | ofNat x =>
    have hx : x % 2 ^ k.bits < 2 ^ k.bits := Nat.mod_lt _ h0
    have e : (-1 - Int.ofNat x) = Int.negSucc x := by rw [Int.negSucc_eq]; simp; omega
    rw [e]
    show _ = Int.negSucc x % ((2 ^ k.bits : Nat) : Int)
    rw [Int.negSucc_emod _ (by exact_mod_cast h0)]
    simp only [lowBits]
    omega
  | negSucc m =>
    have hx : m % 2 ^ k.bits < 2 ^ k.bits := Nat.mod_lt _ h0
    have e : (-1 - Int.negSucc m) = Int.ofNat m := by rw [Int.negSucc_eq]; simp; omega
    rw [e]
    show _ = ((m : Int) % ((2 ^ k.bits : Nat) : Int))
    simp only [lowBits]
    omega

theorem run_intBin {op : BinOp} {k k' : IntKind} {a b : Int} {v : AV} {t : TypeId} (h : intBin op k a b = some v) (hk : k = k' ∨ op = .shl ∨ op = .shr) (w : World) :
    ∃ x, (binOp op t (.int k a) (.int k' b)).run P w = .ok x w ∧ conc ρ σ v = some x := by
  cases op <;> simp only [intBin] at h
  case add =>
    rcases hk with rfl | h' | h' <;> first | (cases h'; done) | skip
    simp only [Option.some.injEq] at h; subst h
    exact ⟨.int k (wrapI k (a + b)), by simp [binOp_add, Op.intArith, wrapI_eq], by simp [conc]⟩
  case sub =>
    rcases hk with rfl | h' | h' <;> first | (cases h'; done) | skip
    simp only [Option.some.injEq] at h; subst h
    exact ⟨.int k (wrapI k (a - b)), by simp [binOp_sub, Op.intArith, wrapI_eq], by simp [conc]⟩
  case mul =>
    rcases hk with rfl | h' | h' <;> first | (cases h'; done) | skip
    simp only [Option.some.injEq] at h; subst h
    exact ⟨.int k (wrapI k (a * b)), by simp [binOp_mul, Op.intArith, wrapI_eq], by simp [conc]⟩
  case quo =>
    rcases hk with rfl | h' | h' <;> first | (cases h'; done) | skip
    split at h
    · cases h
    · rename_i h0
      simp only [Option.some.injEq] at h; subst h
      rw [intEq_eq] at h0
      have h0 : ¬ b = 0 := by simpa using h0
      exact ⟨.int k (wrapI k (a.tdiv b)), by simp [binOp_quo, Op.intDiv, h0, wrapI_eq], by simp [conc]⟩
  case rem =>
    rcases hk with rfl | h' | h' <;> first | (cases h'; done) | skip
    split at h
    · cases h
    · rename_i h0
      simp only [Option.some.injEq] at h; subst h
      rw [intEq_eq] at h0
      have h0 : ¬ b = 0 := by simpa using h0
      exact ⟨.int k (a.tmod b), by simp [binOp_rem, Op.intDiv, h0], by simp [conc]⟩
  case eql =>
    rcases hk with rfl | h' | h' <;> first | (cases h'; done) | skip
    simp only [Option.some.injEq] at h; subst h
    exact ⟨.bool (intEq a b), by simp [binOp_eql, intEq_eq], by simp [conc]⟩
  case neq =>
    rcases hk with rfl | h' | h' <;> first | (cases h'; done) | skip
    simp only [Option.some.injEq] at h; subst h
    exact ⟨.bool (!intEq a b), by simp [binOp_neq, intEq_eq, bne], by simp [conc]⟩
  case lss =>
    rcases hk with rfl | h' | h' <;> first | (cases h'; done) | skip
    simp only [Option.some.injEq] at h; subst h
    exact ⟨.bool (intLt a b), by simp [binOp_lss, intLt_eq], by simp [conc]⟩
  case leq =>
    rcases hk with rfl | h' | h' <;> first | (cases h'; done) | skip
    simp only [Option.some.injEq] at h; subst h
    exact ⟨.bool (!intLt b a), by simp only [binOp_leq, intLt_eq, not_lt_le, Sem.run_pure], by simp [conc]⟩
  case gtr =>
    rcases hk with rfl | h' | h' <;> first | (cases h'; done) | skip
    simp only [Option.some.injEq] at h; subst h
    exact ⟨.bool (intLt b a), by simp [binOp_gtr, intLt_eq], by simp [conc]⟩
  case geq =>
    rcases hk with rfl | h' | h' <;> first | (cases h'; done) | skip
    simp only [Option.some.injEq] at h; subst h
    exact ⟨.bool (!intLt a b), by simp only [binOp_geq, intLt_eq, not_lt_le, Sem.run_pure, ge_iff_le], by simp [conc]⟩
  case and =>
    rcases hk with rfl | h' | h' <;> first | (cases h'; done) | skip
    split at h <;> simp only [Option.some.injEq] at h
    · rename_i x y
      subst h
      refine ⟨.int k (wrapI k (.ofNat (Nat.land x y))), ?_, by simp [conc]⟩
      simp only [binOp_and, Op.intBits, Sem.run_pure, ofInt_nat, wrapI_eq]
      congr 2
      rw [wrap_mod k (.ofNat (Nat.land x y))]
      congr 1
      simp only [BitVec.toNat_and, BitVec.toNat_ofNat]
      have e : Nat.land x y = x &&& y := rfl
      rw [e]
      have e2 : (x &&& y) % 2 ^ k.bits = x % 2 ^ k.bits &&& y % 2 ^ k.bits := Nat.and_mod_two_pow
      show Int.ofNat _ = Int.ofNat _ % 2 ^ k.bits
      rw [← e2]
      norm_cast
    · subst h
      refine ⟨.int k (wrapI k (.ofNat (Nat.land (lowBits k a) (lowBits k b)))), ?_, by simp [conc]⟩
      simp only [binOp_and, Op.intBits, Sem.run_pure, wrapI_eq, BitVec.toNat_and, lowBits_toNat]
      rfl
  case or =>
    rcases hk with rfl | h' | h' <;> first | (cases h'; done) | skip
    split at h <;> simp only [Option.some.injEq, reduceCtorEq] at h
    rename_i x y
    subst h
    refine ⟨.int k (wrapI k (.ofNat (Nat.lor x y))), ?_, by simp [conc]⟩
    simp only [binOp_or, Op.intBits, Sem.run_pure, ofInt_nat, wrapI_eq]
    congr 2
    rw [wrap_mod k (.ofNat (Nat.lor x y))]
    congr 1
    simp only [BitVec.toNat_or, BitVec.toNat_ofNat]
    have e : Nat.lor x y = x ||| y := rfl
    rw [e]
    have e2 : (x ||| y) % 2 ^ k.bits = x % 2 ^ k.bits ||| y % 2 ^ k.bits := Nat.or_mod_two_pow
    show Int.ofNat _ = Int.ofNat _ % 2 ^ k.bits
    rw [← e2]
    norm_cast
  case xor =>
    rcases hk with rfl | h' | h' <;> first | (cases h'; done) | skip
    split at h <;> simp only [Option.some.injEq, reduceCtorEq] at h
    rename_i x y
    subst h
    refine ⟨.int k (wrapI k (.ofNat (Nat.xor x y))), ?_, by simp [conc]⟩
    simp only [binOp_xor, Op.intBits, Sem.run_pure, ofInt_nat, wrapI_eq]
    congr 2
    rw [wrap_mod k (.ofNat (Nat.xor x y))]
    congr 1
    simp only [BitVec.toNat_xor, BitVec.toNat_ofNat]
    have e : Nat.xor x y = x ^^^ y := rfl
    rw [e]
    have e2 : (x ^^^ y) % 2 ^ k.bits = x % 2 ^ k.bits ^^^ y % 2 ^ k.bits := Nat.xor_mod_two_pow
    show Int.ofNat _ = Int.ofNat _ % 2 ^ k.bits
    rw [← e2]
    norm_cast
  case shl =>
    clear hk
    split at h
    · rename_i y
      split at h
      · rename_i hy
        simp only [Option.some.injEq] at h; subst h
        refine ⟨.int k (wrapI k (a * .ofNat (2 ^ y))), ?_, by simp [conc]⟩
        have hy : y ≤ k.bits := by simpa using hy
        simp only [binOp_shl, Op.shift]
        rw [if_neg (by simp)]
        have e : min (Int.ofNat y).toNat k.bits = y := by simp; omega
        simp only [e, Sem.run_pure, wrapI_eq]
        congr 3
      · cases h
    · cases h
  case shr =>
    clear hk
    split at h
    · rename_i x y
      split at h
      · rename_i hy
        simp only [Option.some.injEq] at h; subst h
        refine ⟨.int k (.ofNat (x / 2 ^ y)), ?_, by simp [conc]⟩
        have hy : y ≤ k.bits := by simpa using hy
        simp only [binOp_shr, Op.shift]
        rw [if_neg (by simp)]
        have e : min (Int.ofNat y).toNat k.bits = y := by simp; omega
        simp only [e, Sem.run_pure]
        congr 2
        rw [Int.fdiv_eq_ediv_of_nonneg _ (by exact_mod_cast Nat.zero_le _)]
        simp
      · cases h
    · cases h
  case andNot => cases h

theorem run_strBin {op : BinOp} {a b : List Nat} {v : AV} {t : TypeId} (h : strBin op a b = some v) (ha : Small a) (hb : Small b) (w : World) :
    ∃ x, (binOp op t (.string (bytesOf a)) (.string (bytesOf b))).run P w = .ok x w ∧ conc ρ σ v = some x := by
  have hb0 : binOp op t (.string (bytesOf a)) (.string (bytesOf b)) = Op.stringOp op (bytesOf a) (bytesOf b) := by cases op <;> rfl
  rw [hb0]
  cases op <;> simp only [strBin] at h
  case add =>
    split at h
    · rename_i hl
      simp only [Option.some.injEq] at h; subst h
      refine ⟨.string (bytesOf (a ++ b)), ?_, ?_⟩
      · simp only [Op.stringOp, bytesOf_size, IntKind.max_i64]
        have hl : a.length + b.length ≤ 9223372036854775807 := by simpa using hl
        rw [if_neg (by omega), bytesOf_append]
        simp
      · simp only [conc]
        rw [if_pos (small_all (fun c hc => by rcases List.mem_append.1 hc with h | h; exact ha c h; exact hb c h))]
    · cases h
  case eql => simp only [Option.some.injEq] at h; subst h; exact ⟨.bool (strEq a b), by simp [Op.stringOp, strEq_list ha hb], by simp [conc]⟩
  case neq => simp only [Option.some.injEq] at h; subst h; exact ⟨.bool (!strEq a b), by simp [Op.stringOp, strEq_list ha hb], by simp [conc]⟩
  case lss => simp only [Option.some.injEq] at h; subst h; exact ⟨.bool (strLt a b), by simp [Op.stringOp, strLt_list ha hb], by simp [conc]⟩
  case leq => simp only [Option.some.injEq] at h; subst h; exact ⟨.bool (strLt a b || strEq a b), by simp [Op.stringOp, strLt_list ha hb, strEq_list ha hb], by simp [conc]⟩
  case gtr => simp only [Option.some.injEq] at h; subst h; exact ⟨.bool (!(strLt a b || strEq a b)), by simp only [Op.stringOp, strLt_list ha hb, strEq_list ha hb, Sem.run_pure], by simp [conc]⟩
  case geq => simp only [Option.some.injEq] at h; subst h; exact ⟨.bool (!strLt a b), by simp [Op.stringOp, strLt_list ha hb], by simp [conc]⟩
  all_goals cases h

/-- The test ahead of '==' lets the values by. -/
theorem run_eqGuard {op : BinOp} {t : TypeId} {x y : Operand} {a b : AV} {ca cb : Value} (h : eqPlain P t x y a b = true) (ha : conc ρ σ a = some ca) (hb : conc ρ σ b = some cb)
    (hna : ∀ k, a ≠ .opq k) (hnb : ∀ k, b ≠ .opq k) (w : World) : (eqGuard op t x y ca cb).run P w = .ok () w := by
  cases a
  case opq k => exact absurd rfl (hna k)
  case nili =>
    obtain rfl := inv_nili ha
    cases b
    case opq k => exact absurd rfl (hnb k)
    case nili =>
      obtain rfl := inv_nili hb
      simp only [eqPlain] at h
      split at h
      · simp [eqGuard_nil_constL]
      · simp [eqGuard_nil_constR]
      · cases h
    case bool => obtain rfl := inv_bool hb; cases op <;> rfl
    case int => obtain rfl := inv_int hb; cases op <;> rfl
    case str => obtain ⟨rfl, _⟩ := inv_str hb; cases op <;> rfl
    case nilp => obtain rfl := inv_nilp hb; cases op <;> rfl
    case ptr => obtain ⟨_, _, rfl⟩ := inv_ptr hb; cases op <;> rfl
    case nils => obtain rfl := inv_nils hb; cases op <;> rfl
    case slice => obtain ⟨_, _, rfl⟩ := inv_slice hb; cases op <;> rfl
    case gslice => obtain ⟨_, _, _, _, rfl⟩ := inv_gslice hb; cases op <;> rfl
    case nilm => obtain rfl := inv_nilm hb; cases op <;> rfl
    case map => obtain ⟨_, _, rfl⟩ := inv_map hb; cases op <;> rfl
    case nilf => obtain rfl := inv_nilf hb; cases op <;> rfl
    case func => obtain ⟨_, _, _, _, rfl⟩ := inv_func hb; cases op <;> rfl
    case iface => obtain ⟨_, _, rfl⟩ := inv_iface hb; cases op <;> rfl
    case agg => obtain ⟨_, _, rfl⟩ := inv_agg hb; cases op <;> rfl
    case tuple => obtain ⟨_, _, rfl⟩ := inv_tuple hb; cases op <;> rfl
    case ops => obtain ⟨_, _, _, _, rfl⟩ := inv_ops hb; cases op <;> rfl
    case opl => obtain ⟨_, _, _, _, rfl⟩ := inv_opl hb; cases op <;> rfl
    case gptr => obtain rfl := inv_gptr hb; cases op <;> rfl
    case yld => obtain ⟨_, _, rfl⟩ := inv_yld hb; cases op <;> rfl
    case eslice => obtain ⟨_, _, _, _, rfl⟩ := inv_eslice hb; cases op <;> rfl
  case agg =>
    obtain ⟨_, _, rfl⟩ := inv_agg ha
    cases b
    case opq k => exact absurd rfl (hnb k)
    case agg =>
      obtain ⟨_, _, rfl⟩ := inv_agg hb
      simp only [eqPlain, Bool.not_eq_true'] at h
      exact run_eqGuard_agg w op t x y _ _ h
    case nili => obtain rfl := inv_nili hb; cases op <;> rfl
    case bool => obtain rfl := inv_bool hb; cases op <;> rfl
    case int => obtain rfl := inv_int hb; cases op <;> rfl
    case str => obtain ⟨rfl, _⟩ := inv_str hb; cases op <;> rfl
    case nilp => obtain rfl := inv_nilp hb; cases op <;> rfl
    case ptr => obtain ⟨_, _, rfl⟩ := inv_ptr hb; cases op <;> rfl
    case nils => obtain rfl := inv_nils hb; cases op <;> rfl
    case slice => obtain ⟨_, _, rfl⟩ := inv_slice hb; cases op <;> rfl
    case gslice => obtain ⟨_, _, _, _, rfl⟩ := inv_gslice hb; cases op <;> rfl
    case nilm => obtain rfl := inv_nilm hb; cases op <;> rfl
    case map => obtain ⟨_, _, rfl⟩ := inv_map hb; cases op <;> rfl
    case nilf => obtain rfl := inv_nilf hb; cases op <;> rfl
    case func => obtain ⟨_, _, _, _, rfl⟩ := inv_func hb; cases op <;> rfl
    case iface => obtain ⟨_, _, rfl⟩ := inv_iface hb; cases op <;> rfl
    case tuple => obtain ⟨_, _, rfl⟩ := inv_tuple hb; cases op <;> rfl
    case ops => obtain ⟨_, _, _, _, rfl⟩ := inv_ops hb; cases op <;> rfl
    case opl => obtain ⟨_, _, _, _, rfl⟩ := inv_opl hb; cases op <;> rfl
    case gptr => obtain rfl := inv_gptr hb; cases op <;> rfl
    case yld => obtain ⟨_, _, rfl⟩ := inv_yld hb; cases op <;> rfl
    case eslice => obtain ⟨_, _, _, _, rfl⟩ := inv_eslice hb; cases op <;> rfl
  case bool => obtain rfl := inv_bool ha; cases op <;> rfl
  case int => obtain rfl := inv_int ha; cases op <;> rfl
  case str => obtain ⟨rfl, _⟩ := inv_str ha; cases op <;> rfl
  case nilp => obtain rfl := inv_nilp ha; cases op <;> rfl
  case ptr => obtain ⟨_, _, rfl⟩ := inv_ptr ha; cases op <;> rfl
  case nils => obtain rfl := inv_nils ha; cases op <;> rfl
  case slice => obtain ⟨_, _, rfl⟩ := inv_slice ha; cases op <;> rfl
  case gslice => obtain ⟨_, _, _, _, rfl⟩ := inv_gslice ha; cases op <;> rfl
  case nilm => obtain rfl := inv_nilm ha; cases op <;> rfl
  case map => obtain ⟨_, _, rfl⟩ := inv_map ha; cases op <;> rfl
  case nilf => obtain rfl := inv_nilf ha; cases op <;> rfl
  case func => obtain ⟨_, _, _, _, rfl⟩ := inv_func ha; cases op <;> rfl
  case iface => obtain ⟨_, _, rfl⟩ := inv_iface ha; cases op <;> rfl
  case tuple => obtain ⟨_, _, rfl⟩ := inv_tuple ha; cases op <;> rfl
  case ops => obtain ⟨_, _, _, _, rfl⟩ := inv_ops ha; cases op <;> rfl
  case opl => obtain ⟨_, _, _, _, rfl⟩ := inv_opl ha; cases op <;> rfl
  case gptr => obtain rfl := inv_gptr ha; cases op <;> rfl
  case yld => obtain ⟨_, _, rfl⟩ := inv_yld ha; cases op <;> rfl
  case eslice => obtain ⟨_, _, _, _, rfl⟩ := inv_eslice ha; cases op <;> rfl

theorem binOp_of_aeq {t : TypeId} {a b : AV} {r : Bool} {ca cb : Value} {d : Nat} (h : aeq P (d + 1) t a b = some r) (h1 : ∀ k n k' m, a = .int k n → b ≠ .int k' m) (h2 : ∀ s s', a = .str s → b ≠ .str s')
    (ha : conc ρ σ a = some ca) (hb : conc ρ σ b = some cb) :
    binOp .eql t ca cb = (do pure (.bool (← Op.equal t ca cb))) ∧ binOp .neq t ca cb = (do pure (.bool (!(← Op.equal t ca cb)))) := by
  simp only [aeq, Option.bind_eq_some_iff] at h
  obtain ⟨u, hu, h⟩ := h
  split at h
  · obtain rfl := inv_bool ha; obtain rfl := inv_bool hb; exact ⟨rfl, rfl⟩
  · exact absurd rfl (h1 _ _ _ _ rfl)
  · exact absurd rfl (h2 _ _ rfl)
  · obtain rfl := inv_nilp ha; obtain rfl := inv_nilp hb; exact ⟨rfl, rfl⟩
  · obtain rfl := inv_nilp ha; obtain ⟨_, _, rfl⟩ := inv_ptr hb; exact ⟨rfl, rfl⟩
  · obtain ⟨_, _, rfl⟩ := inv_ptr ha; obtain rfl := inv_nilp hb; exact ⟨rfl, rfl⟩
  · obtain ⟨_, _, rfl⟩ := inv_ptr ha; obtain ⟨_, _, rfl⟩ := inv_ptr hb; exact ⟨rfl, rfl⟩
  · obtain rfl := inv_nils ha; obtain rfl := inv_nils hb; exact ⟨rfl, rfl⟩
  · obtain rfl := inv_nils ha; obtain ⟨_, _, rfl⟩ := inv_slice hb; exact ⟨rfl, rfl⟩
  · obtain rfl := inv_nils ha; obtain ⟨_, _, _, _, rfl⟩ := inv_gslice hb; exact ⟨rfl, rfl⟩
  · obtain ⟨_, _, rfl⟩ := inv_slice ha; obtain rfl := inv_nils hb; exact ⟨rfl, rfl⟩
  · obtain ⟨_, _, _, _, rfl⟩ := inv_gslice ha; obtain rfl := inv_nils hb; exact ⟨rfl, rfl⟩
  · obtain rfl := inv_nilm ha; obtain rfl := inv_nilm hb; exact ⟨rfl, rfl⟩
  · obtain rfl := inv_nilm ha; obtain ⟨_, _, rfl⟩ := inv_map hb; exact ⟨rfl, rfl⟩
  · obtain ⟨_, _, rfl⟩ := inv_map ha; obtain rfl := inv_nilm hb; exact ⟨rfl, rfl⟩
  · obtain rfl := inv_nilf ha; obtain rfl := inv_nilf hb; exact ⟨rfl, rfl⟩
  · obtain rfl := inv_nilf ha; obtain ⟨_, _, _, _, rfl⟩ := inv_func hb; exact ⟨rfl, rfl⟩
  · obtain ⟨_, _, _, _, rfl⟩ := inv_func ha; obtain rfl := inv_nilf hb; exact ⟨rfl, rfl⟩
  · obtain rfl := inv_nili ha; obtain rfl := inv_nili hb; exact ⟨rfl, rfl⟩
  · obtain rfl := inv_nili ha; obtain ⟨_, _, rfl⟩ := inv_iface hb; exact ⟨rfl, rfl⟩
  · obtain ⟨_, _, rfl⟩ := inv_iface ha; obtain rfl := inv_nili hb; exact ⟨rfl, rfl⟩
  · obtain ⟨_, _, rfl⟩ := inv_iface ha; obtain ⟨_, _, rfl⟩ := inv_iface hb; exact ⟨rfl, rfl⟩
  · obtain ⟨_, _, rfl⟩ := inv_agg ha; obtain ⟨_, _, rfl⟩ := inv_agg hb; exact ⟨rfl, rfl⟩
  · obtain ⟨_, _, rfl⟩ := inv_agg ha; obtain ⟨_, _, rfl⟩ := inv_agg hb; exact ⟨rfl, rfl⟩
  · cases h

theorem run_abin {op : BinOp} {t : TypeId} {x y : Operand} {a b v : AV} {ca cb : Value} (h : abin P op t x y a b = some v) (ha : conc ρ σ a = some ca) (hb : conc ρ σ b = some cb) (w : World) :
    ∃ z, ((do eqGuard op t x y ca cb; binOp op t ca cb : Sem Value)).run P w = .ok z w ∧ conc ρ σ v = some z := by
  simp only [abin] at h
  split at h
  · obtain rfl := inv_int ha; obtain rfl := inv_int hb
    rename_i k n k' m
    simp only [Sem.run_bind, eqGuard_at_int, Sem.run_pure, Result.andThen_ok]
    split at h
    · exact run_intBin h (.inr (.inl rfl)) w
    · exact run_intBin h (.inr (.inr rfl)) w
    · split at h
      · rename_i hk
        exact run_intBin h (.inl (kindEq_eq hk)) w
      · cases h
  · obtain ⟨rfl, h1⟩ := inv_str ha; obtain ⟨rfl, h2⟩ := inv_str hb
    simp only [Sem.run_bind, eqGuard_at_string, Sem.run_pure, Result.andThen_ok]
    exact run_strBin h h1 h2 w
  · rename_i k lo hi s
    obtain ⟨s0, _, q1, q2, rfl⟩ := inv_ops ha; obtain ⟨rfl, h2⟩ := inv_str hb
    simp only [Sem.run_bind, eqGuard_at_string, Sem.run_pure, Result.andThen_ok]
    have hne : ∀ c : Bool, (if (Nat.blt s.length lo || Nat.blt hi s.length) = true then some (AV.bool c) else none) = some v → (s0.toList == (bytesOf s).toList) = false ∧ v = .bool c := by
      intro c h
      split at h
      · rename_i hc
        simp only [Option.some.injEq] at h
        refine ⟨?_, h.symm⟩
        have hsz : s0.size ≠ (bytesOf s).size := by
          rw [bytesOf_size]
          simp only [Bool.or_eq_true, Nat.blt_eq] at hc
          omega
        rw [beq_eq_false_iff_ne]
        intro he
        rw [ByteArray.toList_eq, ByteArray.toList_eq] at he
        apply hsz
        have := congrArg List.length he
        simpa using this
      · cases h
    split at h
    · obtain ⟨e1, rfl⟩ := hne _ h
      refine ⟨.bool false, ?_, by simp [conc]⟩
      rw [show binOp .eql t (.string s0) (.string (bytesOf s)) = Op.stringOp .eql s0 (bytesOf s) from rfl]
      simp only [Op.stringOp, e1, Sem.run_pure]
    · obtain ⟨e1, rfl⟩ := hne _ h
      refine ⟨.bool true, ?_, by simp [conc]⟩
      rw [show binOp .neq t (.string s0) (.string (bytesOf s)) = Op.stringOp .neq s0 (bytesOf s) from rfl]
      simp only [Op.stringOp, e1, Sem.run_pure, Bool.not_false]
    · cases h
  · obtain ⟨s0, _, q1, q2, rfl⟩ := inv_opl ha; obtain rfl := inv_int hb
    simp only [Sem.run_bind, eqGuard_at_int, Sem.run_pure, Result.andThen_ok]
    split at h
    · split at h
      · rename_i hc
        simp only [Nat.ble_eq] at hc
        simp only [Option.some.injEq] at h; subst h
        refine ⟨.bool false, ?_, by simp [conc]⟩
        simp only [binOp_gtr, Sem.run_pure]
        congr 2
        simp
        omega
      · split at h
        · rename_i hc
          simp only [Nat.blt_eq] at hc
          simp only [Option.some.injEq] at h; subst h
          refine ⟨.bool true, ?_, by simp [conc]⟩
          simp only [binOp_gtr, Sem.run_pure]
          congr 2
          simp
          omega
        · cases h
    · cases h
  · cases h
  · cases h
  · skip
    rename_i n1 n2 n3 n4 _ _
    have ho1 : ∀ k, a ≠ .opq k := fun k h => n1 k h
    have ho2 : ∀ k, b ≠ .opq k := fun k h => n2 k h
    split at h
    · split at h
      · rename_i hp
        simp only [Option.bind_eq_some_iff, Option.some.injEq] at h
        obtain ⟨r, hr, rfl⟩ := h
        obtain ⟨e1, _⟩ := binOp_of_aeq hr (fun k n k' m h h' => n3 k n k' m h h') (fun s s' h h' => n4 s s' h h') ha hb
        refine ⟨.bool r, ?_, by simp [conc]⟩
        simp only [Sem.run_bind, run_eqGuard hp ha hb ho1 ho2 w, Result.andThen_ok, e1, Op.equal, run_equalIn 9 Op.maxDepth (by simp [Op.maxDepth]) t a b r hr ca cb ha hb w, Sem.run_pure]
      · cases h
    · split at h
      · rename_i hp
        simp only [Option.bind_eq_some_iff, Option.some.injEq] at h
        obtain ⟨r, hr, rfl⟩ := h
        obtain ⟨_, e1⟩ := binOp_of_aeq hr (fun k n k' m h h' => n3 k n k' m h h') (fun s s' h h' => n4 s s' h h') ha hb
        refine ⟨.bool (!r), ?_, by simp [conc]⟩
        simp only [Sem.run_bind, run_eqGuard hp ha hb ho1 ho2 w, Result.andThen_ok, e1, Op.equal, run_equalIn 9 Op.maxDepth (by simp [Op.maxDepth]) t a b r hr ca cb ha hb w, Sem.run_pure]
      · cases h
    · cases h

theorem run_aun {op : UnOp} {a v : AV} {ca : Value} (h : aun op a = some v) (ha : conc ρ σ a = some ca) (w : World) :
    ∃ z, (Op.unary op ca).run P w = .ok z w ∧ conc ρ σ v = some z := by
  simp only [aun] at h
  split at h
  · rename_i k n
    obtain rfl := inv_int ha
    simp only [Option.some.injEq] at h; subst h
    exact ⟨.int k (wrapI k (0 - n)), by simp [Op.unary, Op.intArith, wrapI_eq], by simp [conc]⟩
  · rename_i b
    obtain rfl := inv_bool ha
    simp only [Option.some.injEq] at h; subst h
    exact ⟨.bool (!b), by simp [Op.unary], by simp [conc]⟩
  · obtain rfl := inv_int ha
    simp only [Option.some.injEq] at h; subst h
    refine ⟨_, ?_, by simp only [conc]; rfl⟩
    simp only [Op.unary, Op.intBits, Sem.run_pure, wrapI_eq]
    congr 2
    exact wrap_not _ _
  · cases h

end
end Go.Sx
