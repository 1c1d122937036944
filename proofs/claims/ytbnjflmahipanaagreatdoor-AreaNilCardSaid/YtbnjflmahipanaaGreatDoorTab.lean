/- The tables of the program: the functions without a body that a run may come to, and the variable that is only read. -/
import Derived.Test.YtbnjflmahipanaaGreatDoorRows
import Derived.Test.YtbnjflmahipanaaGreatDoorSxRow
import Derived.Test.YtbnjflmahipanaaGreatDoorSxFrame
import Derived.KernelRfl
import Derived.Lib.Space
namespace Go.Sx
open Go.Proofs
noncomputable abbrev theP : Program := Tryz.prog
def i (n : Int) : AV := .int .i64 n
def u (n : Int) : AV := .int .u8 n
def none3 : Cal := fun _ _ _ => none
def xtN (P : Program) : FuncId → Option Xt
  | 123 => some .mark0
  | 124 => some (.cas .i32)
  | 125 => some .mark0
  | 126 => some .mark1
  | 128 => some .mark1
  | 129 => some (.add .i32)
  | 404 => some .cmp
  | 453 => some .same
  | 498 => some .apart
  | 500 => some .apart
  | f => (P.funcs[f]?).bind fun fn => fn.body.bind fun _ => some .body
theorem hnamed : named theP = true := by kernel_rfl
theorem xtN_ok : XtOk theP (xtN theP) := by
  intro f x h
  unfold xtN at h
  split at h
  · cases h; exact ⟨_, Tryz.func123, by kernel_rfl, by kernel_rfl, by kernel_rfl, ⟨.disable, by kernel_rfl⟩⟩
  · cases h; exact ⟨_, Tryz.func124, by kernel_rfl, by kernel_rfl, by kernel_rfl, (by show Extern.find _ = _; kernel_rfl)⟩
  · cases h; exact ⟨_, Tryz.func125, by kernel_rfl, by kernel_rfl, by kernel_rfl, ⟨.enable, by kernel_rfl⟩⟩
  · cases h; exact ⟨_, Tryz.func126, by kernel_rfl, by kernel_rfl, by kernel_rfl, ⟨.acquire, by kernel_rfl⟩⟩
  · cases h; exact ⟨_, Tryz.func128, by kernel_rfl, by kernel_rfl, by kernel_rfl, ⟨.releaseMerge, by kernel_rfl⟩⟩
  · cases h; exact ⟨_, Tryz.func129, by kernel_rfl, by kernel_rfl, by kernel_rfl, (by show Extern.find _ = _; kernel_rfl)⟩
  · cases h; exact ⟨_, Tryz.func404, by kernel_rfl, by kernel_rfl, by kernel_rfl, (by show Extern.find _ = _; kernel_rfl)⟩
  · cases h; exact ⟨_, Tryz.func453, by kernel_rfl, by kernel_rfl, by kernel_rfl, (by show Extern.find _ = _; kernel_rfl)⟩
  · cases h; exact ⟨_, Tryz.func498, by kernel_rfl, by kernel_rfl, by kernel_rfl, ⟨249, 4, 251, 2, (by show Extern.find _ = _; kernel_rfl), by kernel_rfl, by kernel_rfl⟩⟩
  · cases h; exact ⟨_, Tryz.func500, by kernel_rfl, by kernel_rfl, by kernel_rfl, ⟨313, 4, 240, 1, (by show Extern.find _ = _; kernel_rfl), by kernel_rfl, by kernel_rfl⟩⟩
  · have hb : x = .body := by
      simp only [Option.bind_eq_some_iff, Option.some.injEq] at h
      obtain ⟨_, _, _, _, h⟩ := h
      exact h.symm
    subst hb
    exact body_ok hnamed (by rw [h]; rfl)
theorem mixed : theP.follows .mixedOrders = true := by kernel_rfl
def spaces : List AV := (List.range 256).map fun k => .int .u8 (if Nat.beq k 32 || (Nat.ble 9 k && Nat.ble k 13) then 1 else 0)
theorem spaces_tab : Lib.asciiSpaceTab.map (fun z => AV.int .u8 z) = spaces := by kernel_rfl
def glob : Nat → Option (List AV)
  | 4 => some spaces
  | _ => none
theorem glob_ok {W : World} {val : Nat → Value} {l : List (String × DataW Unit)} (h : laidMetH theP l W) (hm : ("strings.asciiSpace", Lib.tabData .u8 Lib.asciiSpaceTab) ∈ plainOf l) (k : Nat) (cs : List AV) (hk : glob k = some cs) :
    ∃ a t fr, W.heap[k]? = some (.cells a t fr) ∧ GlobA ⟨val, glob⟩ cs a := by
  unfold glob at hk
  split at hk
  · simp only [Option.some.injEq] at hk
    subst hk
    rw [← spaces_tab]
    exact glob_of_tab (P := theP) (by kernel_rfl) (tabIs_of_mem (g := 4) (t := 292) (e := 5) (n := 256) (by kernel_rfl) (by kernel_rfl) (by kernel_rfl) (by kernel_rfl) (by kernel_rfl) (by kernel_rfl) (laidMetH_plain h) hm)
  · cases hk
end Go.Sx
