/- Numbers and texts. -/
import Derived.Test.YtbnjflmahipanaaGreatDoorSxMem
import Derived.Laws.StructEq
namespace Go.Sx
set_option linter.unusedSimpArgs false
set_option linter.unusedVariables false

theorem intEq_eq (a b : Int) : intEq a b = (a == b) := by
  rw [Bool.eq_iff_iff]
  cases a with
  | ofNat a => cases b with
    | ofNat b => simp [intEq]; omega
    | negSucc b => simp only [intEq, beq_iff_eq]; constructor <;> intro h <;> cases h
  | negSucc a => cases b with
    | ofNat b => simp only [intEq, beq_iff_eq]; constructor <;> intro h <;> cases h
    | negSucc b => simp [intEq]

theorem intLt_eq (a b : Int) : intLt a b = decide (a < b) := by
  rw [Bool.eq_iff_iff]
  cases a with
  | ofNat a => cases b with
    | ofNat b => simp [intLt]
    | negSucc b => simp only [intLt, decide_eq_true_eq]; constructor <;> intro h <;> first | (cases h; done) | (exfalso; have := Int.negSucc_lt_zero b; have h2 : (0 : Int) ≤ Int.ofNat a := Int.natCast_nonneg a; omega)
  | negSucc a => cases b with
    | ofNat b => simp only [intLt, decide_eq_true_eq, true_iff]; have := Int.negSucc_lt_zero a; have h2 : (0 : Int) ≤ Int.ofNat b := Int.natCast_nonneg b; omega
    | negSucc b =>
      simp only [intLt, decide_eq_true_eq, Nat.blt_eq]
      rw [Int.negSucc_eq, Int.negSucc_eq]; omega

theorem kindEq_eq {k k' : IntKind} (h : kindEq k k' = true) : k = k' := by cases k <;> cases k' <;> first | rfl | (simp [kindEq] at h)

theorem wrap_i64 (n : Int) (h : -9223372036854775808 ≤ n) (h' : n < 9223372036854775808) : IntKind.i64.wrap n = n := by
  simp [IntKind.wrap, IntKind.bits, IntKind.signed]
  omega

theorem wrapI_eq (k : IntKind) (n : Int) : wrapI k n = k.wrap n := by
  unfold wrapI
  split
  · split
    · rename_i m h
      simp at h
      simp [IntKind.wrap, IntKind.bits, IntKind.signed]
      omega
    · rfl
  · split
    · rename_i m h
      have h : m < 9223372036854775808 := by simpa using h
      exact (wrap_i64 _ (by rw [Int.negSucc_eq]; omega) (by rw [Int.negSucc_eq]; omega)).symm
    · rfl
  · simp [IntKind.wrap, IntKind.bits, IntKind.signed]
  · simp [IntKind.wrap, IntKind.bits, IntKind.signed]
  · simp [IntKind.wrap, IntKind.bits, IntKind.signed]
  · rfl

/-! ### Texts -/

def Small (s : List Nat) : Prop := ∀ c ∈ s, c < 256

theorem small_of {s : List Nat} (h : s.all (fun c => decide (c < 256)) = true) : Small s := by simpa [Small, List.all_eq_true] using h
theorem small_all {s : List Nat} (h : Small s) : s.all (fun c => decide (c < 256)) = true := by simpa [Small, List.all_eq_true] using h

theorem toList_bytesOf (s : List Nat) : (bytesOf s).toList = s.map UInt8.ofNat := by
  rw [ByteArray.toList_eq]; simp [bytesOf]

theorem ofNat_inj {a b : Nat} (ha : a < 256) (hb : b < 256) (h : UInt8.ofNat a = UInt8.ofNat b) : a = b := by
  have := congrArg UInt8.toNat h
  simp at this
  omega

theorem map_inj : ∀ {s t : List Nat}, Small s → Small t → (s.map UInt8.ofNat = t.map UInt8.ofNat ↔ s = t)
  | [], [], _, _ => by simp
  | [], _ :: _, _, _ => by simp
  | _ :: _, [], _, _ => by simp
  | a :: s, b :: t, hs, ht => by
    simp only [List.map_cons, List.cons.injEq]
    rw [map_inj (fun c hc => hs c (by simp [hc])) (fun c hc => ht c (by simp [hc]))]
    constructor
    · rintro ⟨h1, h2⟩; exact ⟨ofNat_inj (hs a (by simp)) (ht b (by simp)) h1, h2⟩
    · rintro ⟨h1, h2⟩; subst h1; exact ⟨rfl, h2⟩

theorem strEq_eq : ∀ (s t : List Nat), strEq s t = decide (s = t)
  | [], [] => by simp [strEq]
  | [], _ :: _ => by simp [strEq]
  | _ :: _, [] => by simp [strEq]
  | a :: s, b :: t => by
    simp only [strEq, strEq_eq s t, List.cons.injEq]
    by_cases h : a = b <;> simp [h]

theorem strEq_list {s t : List Nat} (hs : Small s) (ht : Small t) : ((bytesOf s).toList == (bytesOf t).toList) = strEq s t := by
  rw [toList_bytesOf, toList_bytesOf, strEq_eq, Bool.eq_iff_iff]
  simp [map_inj hs ht]

theorem strEq_bytes {s t : List Nat} (hs : Small s) (ht : Small t) : (bytesOf s == bytesOf t) = strEq s t := by
  rw [beq_toListBytes, strEq_list hs ht]

theorem strLt_list : ∀ {s t : List Nat}, Small s → Small t → Op.bytesLess (bytesOf s).toList (bytesOf t).toList = strLt s t := by
  have key : ∀ s t : List Nat, Small s → Small t → Op.bytesLess (s.map UInt8.ofNat) (t.map UInt8.ofNat) = strLt s t := by
    intro s
    induction s with
    | nil => intro t _ _; cases t <;> simp [Op.bytesLess, strLt]
    | cons a s ih =>
      intro t hs ht
      cases t with
      | nil => simp [Op.bytesLess, strLt]
      | cons b t =>
        have ha := hs a (by simp)
        have hb := ht b (by simp)
        have h1 : decide (UInt8.ofNat a < UInt8.ofNat b) = Nat.blt a b := by
          rw [Bool.eq_iff_iff]; simp [UInt8.lt_iff_toNat_lt]; omega
        have h2 : (UInt8.ofNat a == UInt8.ofNat b) = Nat.beq a b := by
          rw [Bool.eq_iff_iff]; simp
          constructor
          · exact fun h => ofNat_inj ha hb h
          · intro h; rw [h]
        simp only [List.map_cons, Op.bytesLess, strLt, h1, h2, ih t (fun c hc => hs c (by simp [hc])) (fun c hc => ht c (by simp [hc]))]
  intro s t hs ht
  rw [toList_bytesOf, toList_bytesOf]
  exact key s t hs ht

theorem bytesOf_append (s t : List Nat) : bytesOf s ++ bytesOf t = bytesOf (s ++ t) := by
  apply ByteArray.ext
  simp [bytesOf]

theorem bytesOf_extract (s : List Nat) (l h : Nat) : (bytesOf s).extract l h = bytesOf ((s.take h).drop l) := by
  apply ByteArray.ext
  simp [bytesOf, List.drop_take]

theorem bytesOf_get (s : List Nat) (i : Nat) : (bytesOf s)[i]? = (s[i]?).map UInt8.ofNat := by
  by_cases h : i < s.length
  · rw [getElem?_pos (bytesOf s) i (by rw [bytesOf_size]; exact h), List.getElem?_eq_getElem h]
    simp only [Option.map_some, Option.some.injEq]
    show (bytesOf s).data[i]'_ = _
    simp [bytesOf]
  · rw [getElem?_neg (bytesOf s) i (by rw [bytesOf_size]; exact h), List.getElem?_eq_none (by omega)]
    rfl

end Go.Sx
