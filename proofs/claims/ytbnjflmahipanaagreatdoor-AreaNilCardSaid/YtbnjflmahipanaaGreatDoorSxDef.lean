/- A machine on numbered blocks: what it gives, the model's machine gives on every tape. Definitions alone. -/
import Derived.Defers
namespace Go.Sx
set_option linter.unusedSimpArgs false
set_option linter.unusedVariables false

inductive AV where
  | bool (b : Bool)
  | int (k : IntKind) (n : Int)
  | str (s : List Nat)
  | nilp
  | ptr (b off : Nat)
  | nils
  | slice (b off len cap : Nat)
  | gslice (b skip len esz : Nat)
  | nilm
  | map (b : Nat)
  | nilf
  | func (fn : Fn) (first cap : List AV)
  | nili
  | iface (t : TypeId) (v : AV)
  | agg (cs : List AV)
  | tuple (cs : List AV)
  | opq (k : Nat)
  | ops (k lo hi : Nat)
  | opl (k lo hi : Nat)
  | gptr (g off : Nat)
  | yld (b : Nat)
  | eslice (b s0 s1 esz : Nat)

inductive Tr (α : Type) where
  | nil
  | node (v : Option α) (l r : Tr α)

namespace Tr
def get {α : Type} : Tr α → Nat → Option α
  | nil, _ => none
  | node v l r, k => if Nat.beq k 0 then v else if Nat.beq (k % 2) 1 then l.get (k / 2) else r.get (k / 2 - 1)

/-- A new trie with one key, at most f digits. -/
def one {α : Type} : Nat → Nat → α → Option (Tr α)
  | 0, _, _ => none
  | f + 1, k, v => if Nat.beq k 0 then some (node (some v) nil nil)
    else if Nat.beq (k % 2) 1 then (one f (k / 2) v).bind fun t => some (node none t nil)
    else (one f (k / 2 - 1) v).bind fun t => some (node none nil t)

def set {α : Type} : Tr α → Nat → α → Option (Tr α)
  | nil, k, v => one 60 k v
  | node u l r, k, v => if Nat.beq k 0 then some (node (some v) l r)
    else if Nat.beq (k % 2) 1 then (l.set (k / 2) v).bind fun t => some (node u t r)
    else (r.set (k / 2 - 1) v).bind fun t => some (node u l t)

def del {α : Type} : Tr α → Nat → Tr α
  | nil, _ => nil
  | node u l r, k => if Nat.beq k 0 then node none l r
    else if Nat.beq (k % 2) 1 then node u (l.del (k / 2)) r
    else node u l (r.del (k / 2 - 1))
end Tr

structure AEntry where
  key : AV
  val : AV
  born : Nat

structure ALoop where
  T : Tr AV
  nt : Nat
  ps : List Tmp
  assign : Code
  body : Code

inductive ASt where
  | ready
  | busy
  | done
  | exhausted

inductive AObj where
  | cells (cs : List AV) (g : Bool) (kin : Option Nat) (el : Option TypeId)
  | map (es : List AEntry) (clock : Nat)
  | arr (T : Tr AV) (n : Nat) (z : AV)
  | siter (s : List Nat) (pos : Nat)
  | miter (m : Option Nat) (since : Nat) (seen : List Nat) (last : Nat)
  | loop (l : ALoop) (st : ASt) (pend : Option Code)
  | defd

structure St where
  h : Tr AObj
  next : Nat

inductive ADef where
  | fn (fn : FuncId) (args : List AV)
  | mark (b : Nat)

structure Cx where
  T : Tr AV
  S : St
  D : List ADef

inductive Ex where
  | normal
  | exit (id : Nat)
  | ret

/-! ### Plain helpers -/

/-- A constant of the text, its parts by a function. -/
def ofValueA (rec : Value → Option AV) : Value → Option AV
  | .bool b => some (.bool b)
  | .int k n => some (.int k n)
  | .string s => some (.str (s.data.toList.map UInt8.toNat))
  | .pointer none => some .nilp
  | .slice none 0 0 => some .nils
  | .map none => some .nilm
  | .nilFunc => some .nilf
  | .nilIface => some .nili
  | .agg cs => (cs.toList.mapM rec).bind fun l => some (.agg l)
  | .tuple cs => (cs.toList.mapM rec).bind fun l => some (.tuple l)
  | .iface t v => (rec v).bind fun x => some (.iface t x)
  | _ => none

def ofValue : Nat → Value → Option AV
  | 0 => ofValueA fun _ => none
  | d + 1 => ofValueA (ofValue d)

def AV.cellsOf : AV → List AV
  | .agg cs => cs
  | v => [v]

def AV.one : AV → Bool
  | .agg _ | .tuple _ => false
  | _ => true

def wrapI (k : IntKind) (n : Int) : Int :=
  match k, n with
  | .i64, .ofNat m => if Nat.blt m 9223372036854775808 then .ofNat m else k.wrap n
  | .i64, .negSucc m => if Nat.blt m 9223372036854775808 then .negSucc m else k.wrap n
  | .u64, .ofNat m => .ofNat (m % 18446744073709551616)
  | .u32, .ofNat m => .ofNat (m % 4294967296)
  | .u8, .ofNat m => .ofNat (m % 256)
  | k, n => k.wrap n

def intLt : Int → Int → Bool
  | .ofNat a, .ofNat b => Nat.blt a b
  | .ofNat _, .negSucc _ => false
  | .negSucc _, .ofNat _ => true
  | .negSucc a, .negSucc b => Nat.blt b a

def intEq : Int → Int → Bool
  | .ofNat a, .ofNat b => Nat.beq a b
  | .negSucc a, .negSucc b => Nat.beq a b
  | _, _ => false

def kindEq : IntKind → IntKind → Bool
  | .i8, .i8 | .i16, .i16 | .i32, .i32 | .i64, .i64 | .u8, .u8 | .u16, .u16 | .u32, .u32 | .u64, .u64 => true
  | _, _ => false

def strEq : List Nat → List Nat → Bool
  | [], [] => true
  | a :: x, b :: y => Nat.beq a b && strEq x y
  | _, _ => false

def strLt : List Nat → List Nat → Bool
  | _, [] => false
  | [], _ :: _ => true
  | a :: x, b :: y => Nat.blt a b || (Nat.beq a b && strLt x y)

/-- An integer as an index below a bound. -/
def idx (n : Int) (len : Nat) : Option Nat :=
  match n with
  | .ofNat m => if Nat.blt m len then some m else none
  | .negSucc _ => none

/-- At most a bound. -/
def upTo (n : Int) (m : Nat) : Option Nat :=
  match n with
  | .ofNat a => if Nat.ble a m then some a else none
  | .negSucc _ => none

def setAt {α : Type} : List α → Nat → α → Option (List α)
  | [], _, _ => none
  | _ :: l, 0, v => some (v :: l)
  | x :: l, n + 1, v => (setAt l n v).bind fun l' => some (x :: l')

def setMany {α : Type} : List α → Nat → List α → Option (List α)
  | l, _, [] => some l
  | l, n, v :: vs => (setAt l n v).bind fun l' => setMany l' (n + 1) vs

/-- n cells from a place on: all of them, or none. -/
def getMany {α : Type} (l : List α) (at_ n : Nat) : Option (List α) :=
  let r := (l.drop at_).take n
  if Nat.beq r.length n then some r else none

def repeated {α : Type} (z : List α) : Nat → List α
  | 0 => []
  | n + 1 => z ++ repeated z n

/-- The numbers of cells that are bytes. -/
def bytesL : List AV → Option (List Nat)
  | [] => some []
  | .int .u8 (.ofNat m) :: l => if Nat.blt m 256 then (bytesL l).bind fun r => some (m :: r) else none
  | _ => none

/-- The bits of an integer, as a number. -/
def lowBits (k : IntKind) : Int → Nat
  | .ofNat x => x % 2 ^ k.bits
  | .negSucc m => 2 ^ k.bits - 1 - m % 2 ^ k.bits

/-- A cell of a great row. -/
def arrAt (T : Tr AV) (z : AV) (i : Nat) : AV :=
  match T.get i with
  | some v => v
  | none => z

def arrList (T : Tr AV) (z : AV) : Nat → Nat → List AV
  | _, 0 => []
  | i, n + 1 => arrAt T z i :: arrList T z (i + 1) n

def setMT : Nat → List AV → Tr AV → Option (Tr AV)
  | _, [], T => some T
  | i, v :: vs, T => (T.set i v).bind fun T' => setMT (i + 1) vs T'

def allIs (n : Nat) : List AV → Bool
  | [] => true
  | .int .i64 (.ofNat m) :: l => Nat.beq n m && allIs n l
  | _ => false

def allIs32 (n : Nat) : List AV → Bool
  | [] => true
  | .int .i32 (.ofNat m) :: l => Nat.beq n m && allIs32 n l
  | _ => false

/-- A new block of cells; a great one of equal numbers is kept as a tree. -/
def bigObj (cs : List AV) (t : TypeId) : AObj :=
  match cs with
  | .int .i32 (.ofNat m) :: l => if Nat.blt 64 l.length && allIs32 m l then .arr .nil (l.length + 1) (.int .i32 (.ofNat m)) else .cells cs false none (some t)
  | .int .i64 (.ofNat m) :: l => if Nat.blt 64 l.length && allIs m l then .arr .nil (l.length + 1) (.int .i64 (.ofNat m)) else .cells cs false none (some t)
  | _ => .cells cs false none (some t)

section
variable (P : Program)

def zeroOf (t : TypeId) : Option AV := (P.info? t).bind fun i => i.zero.bind (ofValue 3)
def tsize (t : TypeId) : Option Nat := (P.info? t).map (·.size)
def isAggT (t : TypeId) : Option Bool := (P.underlying t).map fun | .struct _ | .array _ _ => true | _ => false

/-- A part of an aggregate. -/
def apart (t : TypeId) (cs : List AV) (off : Nat) : Option AV :=
  (isAggT P t).bind fun g => if g then (tsize P t).bind fun n => (getMany cs off n).bind fun l => some (.agg l) else cs[off]?

def intBin (op : BinOp) (k : IntKind) (a b : Int) : Option AV :=
  match op with
  | .add => some (.int k (wrapI k (a + b)))
  | .sub => some (.int k (wrapI k (a - b)))
  | .mul => some (.int k (wrapI k (a * b)))
  | .quo => if intEq b 0 then none else some (.int k (wrapI k (a.tdiv b)))
  | .rem => if intEq b 0 then none else some (.int k (a.tmod b))
  | .eql => some (.bool (intEq a b))
  | .neq => some (.bool (!intEq a b))
  | .lss => some (.bool (intLt a b))
  | .leq => some (.bool (!intLt b a))
  | .gtr => some (.bool (intLt b a))
  | .geq => some (.bool (!intLt a b))
  | .and => match a, b with
    | .ofNat x, .ofNat y => some (.int k (wrapI k (.ofNat (Nat.land x y))))
    | _, _ => some (.int k (wrapI k (.ofNat (Nat.land (lowBits k a) (lowBits k b)))))
  | .or => match a, b with
    | .ofNat x, .ofNat y => some (.int k (wrapI k (.ofNat (Nat.lor x y))))
    | _, _ => none
  | .xor => match a, b with
    | .ofNat x, .ofNat y => some (.int k (wrapI k (.ofNat (Nat.xor x y))))
    | _, _ => none
  | .shl => match b with
    | .ofNat y => if Nat.ble y k.bits then some (.int k (wrapI k (a * .ofNat (2 ^ y)))) else none
    | _ => none
  | .shr => match a, b with
    | .ofNat x, .ofNat y => if Nat.ble y k.bits then some (.int k (.ofNat (x / 2 ^ y))) else none
    | _, _ => none
  | _ => none

def strBin (op : BinOp) (a b : List Nat) : Option AV :=
  match op with
  | .add => if Nat.ble (a.length + b.length) 9223372036854775807 then some (.str (a ++ b)) else none
  | .eql => some (.bool (strEq a b))
  | .neq => some (.bool (!strEq a b))
  | .lss => some (.bool (strLt a b))
  | .leq => some (.bool (strLt a b || strEq a b))
  | .gtr => some (.bool (!(strLt a b || strEq a b)))
  | .geq => some (.bool (!strLt a b))
  | _ => none

/-- '==' of two values of a type. -/
def aeq : Nat → TypeId → AV → AV → Option Bool
  | 0, _, _, _ => none
  | d + 1, t, x, y =>
    (P.underlying t).bind fun u => match u, x, y with
    | .bool, .bool a, .bool b => some (a == b)
    | .int _, .int k a, .int k' b => if kindEq k k' then some (intEq a b) else none
    | .string, .str a, .str b => some (strEq a b)
    | .pointer _, .nilp, .nilp => some true
    | .pointer _, .nilp, .ptr _ _ => some false
    | .pointer _, .ptr _ _, .nilp => some false
    | .pointer e, .ptr b o, .ptr b' o' => (tsize P e).bind fun n => if Nat.beq n 0 then none else if Nat.beq b b' then some (Nat.beq o o') else none
    | .slice _, .nils, .nils => some true
    | .slice _, .nils, .slice .. => some false
    | .slice _, .nils, .gslice .. => some false
    | .slice _, .slice .., .nils => some false
    | .slice _, .gslice .., .nils => some false
    | .map _ _, .nilm, .nilm => some true
    | .map _ _, .nilm, .map _ => some false
    | .map _ _, .map _, .nilm => some false
    | .func _ _ _, .nilf, .nilf => some true
    | .func _ _ _, .nilf, .func .. => some false
    | .func _ _ _, .func .., .nilf => some false
    | .interface _, .nili, .nili => some true
    | .interface _, .nili, .iface _ _ => some false
    | .interface _, .iface _ _, .nili => some false
    | .interface _, .iface tx vx, .iface ty vy => if Nat.beq tx ty then (P.info? tx).bind fun i => if i.comparable then aeq d tx vx vy else none else some false
    | .struct fs, .agg xs, .agg ys =>
      if P.stoodInHeld t then none else
      fs.toList.foldr (fun f k => if f.name == "_" then k else
        (apart P f.type xs f.offset).bind fun a => (apart P f.type ys f.offset).bind fun b => (aeq d f.type a b).bind fun r => if r then k else some false) (some true)
    | .array len e, .agg xs, .agg ys =>
      (tsize P e).bind fun n =>
      (List.range' 0 len).foldr (fun i k =>
        (apart P e xs (i * n)).bind fun a => (apart P e ys (i * n)).bind fun b => (aeq d e a b).bind fun r => if r then k else some false) (some true)
    | _, _, _ => none

/-- Neither of two values opens the model's question about nil values of an interface type with methods. -/
def eqPlain (t : TypeId) (x y : Operand) (a b : AV) : Bool :=
  match a, b with
  | .nili, .nili => match x, y with
    | .const _, _ => true
    | _, .const _ => true
    | _, _ => false
  | .agg _, .agg _ => !P.eqGuardType P.depth t
  | _, _ => true

def abin (op : BinOp) (t : TypeId) (x y : Operand) (a b : AV) : Option AV :=
  match a, b with
  | .int k n, .int k' m => match op with
    | .shl | .shr => intBin op k n m
    | _ => if kindEq k k' then intBin op k n m else none
  | .str s, .str s' => strBin op s s'
  | .ops _ lo hi, .str s => match op with
    | .eql => if Nat.blt s.length lo || Nat.blt hi s.length then some (.bool false) else none
    | .neq => if Nat.blt s.length lo || Nat.blt hi s.length then some (.bool true) else none
    | _ => none
  | .opl _ lo hi, .int .i64 (.ofNat c) => match op with
    | .gtr => if Nat.ble hi c then some (.bool false) else if Nat.blt c lo then some (.bool true) else none
    | _ => none
  | .opq _, _ => none
  | _, .opq _ => none
  | a, b => match op with
    | .eql => if eqPlain P t x y a b then (aeq P 9 t a b).bind fun r => some (.bool r) else none
    | .neq => if eqPlain P t x y a b then (aeq P 9 t a b).bind fun r => some (.bool (!r)) else none
    | _ => none

def aun (op : UnOp) (x : AV) : Option AV :=
  match op, x with
  | .neg, .int k n => some (.int k (wrapI k (0 - n)))
  | .not, .bool b => some (.bool !b)
  | .xor, .int k n => some (.int k (wrapI k (-1 - n)))
  | _, _ => none

def filled (place : Nat → Option (Nat × Nat)) (cells : List AV) : List (Nat × AV) → Option (List AV)
  | [] => some cells
  | (i, v) :: rest => (place i).bind fun (off, size) =>
    if Nat.beq v.cellsOf.length size && Nat.ble off cells.length then (setMany cells off v.cellsOf).bind fun cs => filled place cs rest else none

def evL (ev : Operand → Option AV) : List Operand → Option (List AV)
  | [] => some []
  | x :: l => (ev x).bind fun v => (evL ev l).bind fun vs => some (v :: vs)

def evP (ev : Operand → Option AV) : List (Nat × Operand) → Option (List (Nat × AV))
  | [] => some []
  | (i, x) :: l => (ev x).bind fun v => (evP ev l).bind fun vs => some ((i, v) :: vs)

def evO (ev : Operand → Option AV) : Option Operand → Option (Option AV)
  | none => some none
  | some x => (ev x).bind fun v => some (some v)

/-- The bounds of a slice expression: low, high, max. -/
def abounds (len cap : Nat) (low high max : Option AV) : Option (Nat × Nat × Nat) :=
  (match max with
   | some (.int _ n) => upTo n cap
   | none => some cap
   | _ => none).bind fun m =>
  (match high with
   | some (.int _ n) => upTo n m
   | none => if max.isSome then none else some len
   | _ => none).bind fun h =>
  (match low with
   | some (.int _ n) => upTo n h
   | none => some 0
   | _ => none).bind fun l => some (l, h, m)

def aslice (t : TypeId) (x : AV) (low high max : Option AV) : Option AV :=
  (P.underlying t).bind fun u => match u, x with
  | .string, .str s => if max.isSome then none else (abounds s.length s.length low high none).bind fun (l, h, _) => some (.str ((s.take h).drop l))
  | .slice e, .nils => (abounds 0 0 low high max).bind fun _ => (tsize P e).bind fun _ => some .nils
  | .slice e, .slice b off len cap => (abounds len cap low high max).bind fun (l, h, m) => (tsize P e).bind fun sz =>
      some (.slice b (if Nat.beq m l then off else off + l * sz) (h - l) (m - l))
  | .slice e, .gslice b skip len esz =>
      match max with
      | none => (abounds len len low high none).bind fun (l, h, _) => (tsize P e).bind fun sz =>
        if Nat.beq sz esz then (if Nat.beq l 0 || Nat.blt l len then some (.gslice b (skip + l) (h - l) esz) else some (.eslice b skip (skip + l) esz)) else none
      | some _ => (abounds len len low high max).bind fun (l, h, m) => (tsize P e).bind fun sz =>
        if Nat.beq sz esz then some (.slice b (if Nat.beq m l then skip * sz else (skip + l) * sz) (h - l) (m - l)) else none
  | .array n e, .ptr b off => (abounds n n low high max).bind fun (l, h, m) => (tsize P e).bind fun sz =>
      some (.slice b (if Nat.beq m l then off else off + l * sz) (h - l) (m - l))
  | _, _ => none

/-- What needs no memory. -/
def apure (ev : Operand → Option AV) (o : Oper) : Option AV :=
  match o.op with
  | .move x | .assign x => ev x
  | .pick c a b => (ev c).bind fun v => match v with
    | .bool true => ev a
    | .bool false => ev b
    | _ => none
  | .build t parts => (zeroOf P t).bind fun z => (P.underlying t).bind fun u => (evP ev parts.toList).bind fun ps => match u with
    | .struct fs => if !(fs.toList.all fun f => (tsize P f.type).isSome) then none else (filled (fun i => fs[i]?.bind fun f => (tsize P f.type).map fun n => (f.offset, n)) z.cellsOf ps).bind fun cs => some (.agg cs)
    | .array _ e => (tsize P e).bind fun n => (filled (fun i => some (i * n, n)) z.cellsOf ps).bind fun cs => some (.agg cs)
    | _ => none
  | .nilCheck x => (ev x).bind fun v => match v with
    | .ptr b o => some (.ptr b o)
    | .func (.func f) a c => some (.func (.func f) a c)
    | _ => none
  | .binOp op t x y _ => (ev x).bind fun a => (ev y).bind fun b => abin P op t x y a b
  | .unOp op _ x => (ev x).bind fun a => aun op a
  | .convert s d x => (ev x).bind fun v => (P.underlying s).bind fun _ => (P.underlying d).bind fun u => match u, v with
    | .int k, .int _ n => some (.int k (wrapI k n))
    | .string, .str s => some (.str s)
    | _, _ => none
  | .makeInterface t x => (ev x).bind fun v => (P.underlying t).bind fun u => match u with
    | .interface _ => none
    | _ => some (.iface t v)
  | .makeFunc fn first cap => (evL ev first.toList).bind fun a => (evL ev cap.toList).bind fun c => some (.func fn a c)
  | .slice t x lo hi mx => (ev x).bind fun v => (evO ev lo).bind fun l => (evO ev hi).bind fun h => (evO ev mx).bind fun m => aslice P t v l h m
  | .fieldAddr s x f => (P.underlying s).bind fun u => match u with
    | .struct fs => fs[f]?.bind fun fd => (tsize P fd.type).bind fun n => if Nat.beq n 0 then none else (ev x).bind fun v => match v with
      | .ptr b off => some (.ptr b (off + fd.offset))
      | .gptr g off => some (.gptr g (off + fd.offset))
      | _ => none
    | _ => none
  | .field t x f => (P.underlying t).bind fun u => match u with
    | .struct fs => fs[f]?.bind fun fd => (ev x).bind fun v => match v with
      | .agg cs => apart P fd.type cs fd.offset
      | _ => none
    | _ => none
  | .indexAddr t x i => (P.underlying t).bind fun u => (ev x).bind fun v => (ev i).bind fun iv => match u, v, iv with
    | .array len e, .ptr b off, .int _ n => (idx n len).bind fun m => (tsize P e).bind fun sz => some (.ptr b (off + m * sz))
    | .array len e, .gptr g off, .int _ n => (idx n len).bind fun m => (tsize P e).bind fun sz => some (.gptr g (off + m * sz))
    | .slice e, .slice b off len _, .int _ n => (idx n len).bind fun m => (tsize P e).bind fun sz => some (.ptr b (off + m * sz))
    | .slice e, .gslice b skip len esz, .int _ n => (idx n len).bind fun m => (tsize P e).bind fun sz => if Nat.beq sz esz then some (.ptr b (skip * esz + m * sz)) else none
    | _, _, _ => none
  | .index t x i => (P.underlying t).bind fun u => (ev x).bind fun v => (ev i).bind fun iv => match u, v, iv with
    | .array len e, .agg cs, .int _ n => (idx n len).bind fun m => (tsize P e).bind fun sz => apart P e cs (m * sz)
    | .string, .str s, .int _ n => (idx n s.length).bind fun m => s[m]?.bind fun c => some (.int .u8 (.ofNat c))
    | _, _, _ => none
  | .extract x i => (ev x).bind fun v => match v with
    | .tuple vs => vs[i]?
    | _ => none
  | .call { callee := .builtin b, args, argTypes } => match b, args.toList with
    | .len, [x] => argTypes[0]?.bind fun t => (P.underlying t).bind fun u => (ev x).bind fun v => match u, v with
      | .string, .str s => some (.int .i64 (.ofNat s.length))
      | .string, .ops k lo hi => some (.opl k lo hi)
      | .array n _, _ => some (.int .i64 (.ofNat n))
      | .pointer e, _ => (P.underlying e).bind fun w => match w with
        | .array n _ => some (.int .i64 (.ofNat n))
        | _ => none
      | .slice _, .nils => some (.int .i64 0)
      | .slice _, .slice _ _ n _ => some (.int .i64 (.ofNat n))
      | .slice _, .gslice _ _ n _ => some (.int .i64 (.ofNat n))
      | .slice _, .eslice .. => some (.int .i64 0)
      | .map _ _, .nilm => some (.int .i64 0)
      | _, _ => none
    | .cap, [x] => argTypes[0]?.bind fun t => (P.underlying t).bind fun u => (ev x).bind fun v => match u, v with
      | .slice _, .nils => some (.int .i64 0)
      | .slice _, .slice _ _ _ c => some (.int .i64 (.ofNat c))
      | _, _ => none
    | .unsafeSliceData, [x] => (ev x).bind fun v => match v with
      | .nils => some .nilp
      | .slice b off _ c => if Nat.beq c 0 then none else some (.ptr b off)
      | .gslice b skip len esz => if Nat.beq len 0 then none else some (.ptr b (skip * esz))
      | _ => none
    | .max, [x, y] => (ev x).bind fun a => (ev y).bind fun b => match a, b with
      | .int k m, .int _ n => some (.int k (if intLt m n then n else m))
      | _, _ => none
    | .min, [x, y] => (ev x).bind fun a => (ev y).bind fun b => match a, b with
      | .int k m, .int _ n => some (.int k (if intLt n m then n else m))
      | _, _ => none
    | _, _ => none
  | _ => none

/-- Which kind of operation. -/
inductive Cl where
  | pure
  | read
  | alloc
  | heavy

def classOf (o : Oper) : Cl :=
  match o.op with
  | .binOp op t _ _ _ => match op, P.underlying t with
    | .eql, some (.pointer _) => .read
    | .neq, some (.pointer _) => .read
    | _, _ => .pure
  | .move _ | .assign _ | .pick .. | .build .. | .nilCheck _ | .unOp .. | .makeInterface .. | .makeFunc .. | .slice .. | .fieldAddr .. | .field .. | .indexAddr .. | .index .. | .extract .. => .pure
  | .convert s d _ => match P.underlying s, P.underlying d with
    | some (.pointer _), some .unsafePointer => .read
    | some .unsafePointer, some (.pointer _) => .read
    | some (.slice _), some .string => .read
    | some .string, some (.slice _) => .heavy
    | _, _ => .pure
  | .load .. | .lookup .. => .read
  | .call { callee := .builtin b, argTypes, .. } => match b with
    | .len => match (argTypes[0]?).bind P.underlying with
      | some (.map _ _) => .read
      | _ => .pure
    | .cap | .max | .min | .unsafeSliceData => .pure
    | _ => .heavy
  | .alloc _ | .box .. | .buildSlice .. | .makeMap .. | .makeSlice .. => .alloc
  | _ => .heavy

def plainKey0 (u : TypeDesc) (v : AV) : Bool :=
  match u, v with
  | .int _, .int _ _ => true
  | .string, .str _ => true
  | .bool, .bool _ => true
  | _, _ => false

def plainKey (u : TypeDesc) (v : AV) : Bool :=
  match u, v with
  | .pointer e, .ptr _ _ => match tsize P e with
    | some n => !(Nat.beq n 0)
    | none => false
  | u, v => plainKey0 u v

def keyEq : AV → AV → Option Bool
  | .int k a, .int k' b => if kindEq k k' then some (intEq a b) else none
  | .str a, .str b => some (strEq a b)
  | .bool a, .bool b => some (a == b)
  | .ptr b o, .ptr b' o' => if Nat.beq b b' && Nat.beq o o' then some true else none
  | _, _ => none

def findK (k : AV) : List AEntry → Option (Option AV)
  | [] => some none
  | e :: es => (keyEq k e.key).bind fun r => if r then some (some e.val) else findK k es

/-- Two pointers into two blocks. -/
def ptrApart (h : Nat → Option AObj) (b1 off1 b2 : Nat) : Bool :=
  match h b1, h b2 with
  | some (.cells cs1 _ none (some _)), some (.cells cs2 _ none (some _)) => !(Nat.beq b1 b2) && Nat.blt off1 cs1.length && Nat.blt 0 cs2.length
  | _, _ => false

/-- What reads memory. -/
def aread (G : Nat → Option (List AV)) (ev : Operand → Option AV) (h : Nat → Option AObj) (o : Oper) : Option AV :=
  match o.op with
  | .load t x => (ev x).bind fun v => match v with
    | .ptr b off => (h b).bind fun ob => match ob with
      | .cells cs _ _ _ => (isAggT P t).bind fun g => if g then (tsize P t).bind fun n => (getMany cs off n).bind fun l => some (.agg l) else cs[off]?
      | .arr T m z => (isAggT P t).bind fun g => if g then (tsize P t).bind fun n => if Nat.ble (off + n) m then some (.agg (arrList T z off n)) else none else if Nat.blt off m then some (arrAt T z off) else none
      | _ => none
    | .gptr g off => (G g).bind fun cs => (isAggT P t).bind fun g => if g then (tsize P t).bind fun n => (getMany cs off n).bind fun l => some (.agg l) else cs[off]?
    | _ => none
  | .binOp op t x y _ => (ev x).bind fun a => (ev y).bind fun b => match a, b with
    | .ptr b1 o1, .ptr b2 o2 => if Nat.beq b1 b2 then abin P op t x y a b else (P.underlying t).bind fun u => match u with
      | .pointer e => (tsize P e).bind fun n => if Nat.beq n 0 then none else if ptrApart h b1 o1 b2 then (match op with | .eql => some (.bool false) | .neq => some (.bool true) | _ => none) else none
      | _ => none
    | _, _ => abin P op t x y a b
  | .lookup t x i ok => (P.underlying t).bind fun u => match u with
    | .map kt et => (P.underlying kt).bind fun ku => (ev x).bind fun v => (ev i).bind fun k => if plainKey P ku k then
        (match v with
         | .nilm => some []
         | .map b => (h b).bind fun ob => match ob with
           | .map es _ => some es
           | _ => none
         | _ => none).bind fun es => (findK k es).bind fun r => match r with
          | some w => some (if ok then .tuple [w, .bool true] else w)
          | none => (zeroOf P et).bind fun z => some (if ok then .tuple [z, .bool false] else z)
      else none
    | _ => none
  | .call { callee := .builtin .len, args, argTypes } => match args.toList with
    | [x] => argTypes[0]?.bind fun t => (P.underlying t).bind fun u => (ev x).bind fun v => match u, v with
      | .map _ _, .nilm => some (.int .i64 0)
      | .map _ _, .map b => (h b).bind fun ob => match ob with
        | .map es _ => some (.int .i64 (.ofNat es.length))
        | _ => none
      | _, _ => none
    | _ => none
  | .convert s d x => (P.underlying s).bind fun us => (P.underlying d).bind fun ud => (ev x).bind fun v => match us, ud, v with
    | .pointer t, .unsafePointer, .ptr b off => (tsize P t).bind fun n => if Nat.beq n 0 then none else (h b).bind fun ob => match ob with
      | .cells cs _ _ _ => if Nat.blt off cs.length then some (.ptr b off) else none
      | _ => none
    | .pointer _, .unsafePointer, .nilp => some .nilp
    | .unsafePointer, .pointer _, .nilp => some .nilp
    | .unsafePointer, .pointer u, .ptr b off => (h b).bind fun ob => match ob with
      | .cells cs false _ (some t) => if (tsize P u).isSome && liesAt P P.depth t (cs.length / P.cellsOf t) off u 1 then some (.ptr b off) else none
      | _ => none
    | .slice e, .string, .nils => (P.underlying e).bind fun ue => match ue with
      | .int .u8 => some (.str [])
      | _ => none
    | .slice e, .string, .slice b off len _ => (P.underlying e).bind fun ue => match ue with
      | .int .u8 => (h b).bind fun ob => match ob with
        | .cells cs _ _ _ => (getMany cs off len).bind fun l => (bytesL l).bind fun s => some (.str s)
        | _ => none
      | _ => none
    | .slice e, .string, .gslice b skip len esz => (P.underlying e).bind fun ue => match ue with
      | .int .u8 => if Nat.beq esz 1 then (h b).bind fun ob => match ob with
        | .cells cs _ _ _ => (getMany cs skip len).bind fun l => (bytesL l).bind fun s => some (.str s)
        | _ => none else none
      | _ => none
    | _, _, _ => none
  | _ => none

/-- What makes one block, with number id: its value and the block. -/
def aalloc (ev : Operand → Option AV) (id : Nat) (o : Oper) : Option (AV × AObj) :=
  match o.op with
  | .alloc t => (zeroOf P t).bind fun z => some (.ptr id 0, bigObj z.cellsOf t)
  | .box t x => (ev x).bind fun v => some (.ptr id 0, .cells v.cellsOf false none (some t))
  | .buildSlice t len parts => (P.underlying t).bind fun u => match u with
    | .slice e => (tsize P e).bind fun sz => (evP ev parts.toList).bind fun ps =>
      (if Nat.beq (len * sz) 0 then some [] else (zeroOf P e).bind fun z => if Nat.beq z.cellsOf.length sz then some (repeated z.cellsOf len) else none).bind fun z =>
      if Nat.ble (len * sz) 65536 then
        (filled (fun i => some (i * sz, sz)) z ps).bind fun cs => some (.slice id 0 len len, .cells cs false none (some e))
      else none
    | _ => none
  | .makeMap t r => (P.underlying t).bind fun u => match u with
    | .map _ _ => (match r with
      | none => some ()
      | some x => (ev x).bind fun v => match v with
        | .int _ _ => some ()
        | _ => none).bind fun _ => some (.map id, .map [] 0)
    | _ => none
  | .makeSlice t l c => (P.underlying t).bind fun u => match u with
    | .slice e => (tsize P e).bind fun sz => (ev l).bind fun lv => (ev c).bind fun cv => match lv, cv with
      | .int _ (.ofNat n), .int _ (.ofNat m) => if Nat.ble n m && Nat.ble m 65536 && Nat.ble sz 4096 then
          ((P.info? e).bind fun i => if Nat.ble i.bytes 65536 then some () else none).bind fun _ =>
          (if Nat.beq (m * sz) 0 then some [] else (zeroOf P e).bind fun z => if Nat.beq z.cellsOf.length sz then some (repeated z.cellsOf m) else none).bind fun cs =>
          some (.slice id 0 n m, .cells cs false none (some e))
        else none
      | _, _ => none
    | _ => none
  | _ => none

/-! ### Writing -/

def St.new (S : St) (o : AObj) : Option (Nat × St) := (S.h.set S.next o).bind fun h => some (S.next, ⟨h, S.next + 1⟩)

/-- The block itself, without those that may lie in the same memory. -/
def St.alone (S : St) (b : Nat) : Option (List AV × Bool × Option TypeId × St) :=
  (S.h.get b).bind fun o => match o with
  | .cells cs g none el => some (cs, g, el, S)
  | .cells cs g (some c) el => if Nat.beq c b then none else some (cs, g, el, ⟨S.h.del c, S.next⟩)
  | _ => none

/-- Cells written into a block. -/
def St.write (S : St) (b off : Nat) (vs : List AV) : Option St :=
  match vs with
  | [] => some S
  | _ => if !vs.all AV.one then none else match S.h.get b with
    | some (.arr T n z) => if Nat.ble (off + vs.length) n then (setMT off vs T).bind fun T' => (S.h.set b (.arr T' n z)).bind fun h => some ⟨h, S.next⟩ else none
    | _ => (S.alone b).bind fun (cs, g, el, S') => (setMany cs off vs).bind fun cs' => (S'.h.set b (.cells cs' g none el)).bind fun h => some ⟨h, S'.next⟩

def putK (k v : AV) (clock : Nat) : List AEntry → Option (List AEntry × Bool)
  | [] => some ([⟨k, v, clock⟩], true)
  | e :: es => (keyEq k e.key).bind fun r => if r then some (⟨k, v, e.born⟩ :: es, false) else (putK k v clock es).bind fun (l, n) => some (e :: l, n)

def delK (k : AV) : List AEntry → Option (List AEntry)
  | [] => some []
  | e :: es => (keyEq k e.key).bind fun r => if r then some es else (delK k es).bind fun l => some (e :: l)

/-- The cells that a source of an append or a copy has: n elements. -/
def srcCells (S : St) (size n : Nat) (x : AV) : Option (List AV) :=
  match x with
  | .nils => if Nat.beq n 0 then some [] else none
  | .slice b off _ _ => (S.h.get b).bind fun o => match o with
    | .cells cs _ _ _ => getMany cs off (n * size)
    | _ => none
  | .gslice b skip _ esz => if Nat.beq esz size then (S.h.get b).bind fun o => match o with
    | .cells cs _ _ _ => getMany cs (skip * esz) (n * size)
    | _ => none else none
  | .str s => if Nat.ble n s.length && Nat.beq size 1 then some ((s.take n).map fun c => .int .u8 (.ofNat c)) else none
  | _ => none

def lenOf : AV → Option Nat
  | .nils => some 0
  | .slice _ _ n _ => some n
  | .gslice _ _ n _ => some n
  | .str s => some s.length
  | _ => none

def aappend (S : St) (argTypes : Array TypeId) (s x : AV) : Option (AV × St) :=
  argTypes[0]?.bind fun st => (P.underlying st).bind fun u => match u with
  | .slice e => (tsize P e).bind fun sz => argTypes[1]?.bind fun xt => (P.underlying xt).bind fun xu => match xu with
    | .int _ => none
    | _ => (lenOf x).bind fun n => (srcCells S sz n x).bind fun new => (P.info? e).bind fun inf =>
      (zeroOf P e).bind fun z =>
      if !(Nat.ble inf.bytes 65536 && Nat.ble 1 inf.bytes && Nat.ble 1 sz && Nat.ble n 65536 && Nat.beq z.cellsOf.length sz && new.all AV.one) then none else
      match s with
      | .nils => if Nat.beq n 0 then some (.nils, S) else (S.new (.cells new true none (some e))).bind fun (id, S') => some (.gslice id 0 n sz, S')
      | .slice b off len cap =>
        if !(Nat.ble len 65536) then none
        else if Nat.ble (len + n) cap then (S.write b (off + len * sz) new).bind fun S' => some (.slice b off (len + n) cap, S')
        else (srcCells S sz len s).bind fun old => (S.new (.cells (old ++ new) true none (some e))).bind fun (id, S') => some (.gslice id 0 (len + n) sz, S')
      | .gslice b skip len esz =>
        if !(Nat.beq esz sz && Nat.ble len 65536) then none
        else if Nat.beq n 0 then some (s, S)
        else (S.alone b).bind fun (cs, g, el, S1) => (getMany cs (skip * sz) (len * sz)).bind fun old =>
          if !g then none else
          let el' := match el with | some t => if Nat.beq t e then some e else none | none => none
          (S1.new (.cells (old ++ new) true (some b) el')).bind fun (id, S2) =>
          (S2.h.set b (.cells (cs.take ((skip + len) * sz)) true (some id) el)).bind fun h => some (.gslice id 0 (len + n) sz, ⟨h, S2.next⟩)
      | _ => none
  | _ => none

def acopy (S : St) (argTypes : Array TypeId) (d x : AV) : Option (AV × St) :=
  argTypes[0]?.bind fun st => (P.underlying st).bind fun u => match u with
  | .slice e => (tsize P e).bind fun sz => (lenOf x).bind fun n => (lenOf d).bind fun m =>
    let k := if Nat.ble n m then n else m
    (srcCells S sz k x).bind fun cs => match d with
    | .nils => some (.int .i64 0, S)
    | .slice b off _ _ => (S.write b off cs).bind fun S' => some (.int .i64 (.ofNat k), S')
    | .gslice b skip _ esz => (S.write b (skip * esz) cs).bind fun S' => some (.int .i64 (.ofNat k), S')
    | _ => none
  | _ => none

/-- A function that may be called: one that has a body, or one of the library that has none. -/
inductive Xt where
  | body
  | mark0
  | mark1
  | cas (k : IntKind)
  | add (k : IntKind)
  | same
  | cmp
  | apart

def aext (S : St) (x : Xt) (args : List AV) : Option (AV × St) :=
  match x, args with
  | .mark0, [] => some (.tuple [], S)
  | .mark1, [.ptr _ _] => some (.tuple [], S)
  | .cas k, [.ptr b off, .int k1 x, .int k2 y] => if kindEq k k1 && kindEq k k2 then
      (S.h.get b).bind fun o => match o with
      | .cells cs _ _ _ => cs[off]?.bind fun c => match c with
        | .int k3 z => if kindEq k k3 then (if intEq z x then (S.write b off [.int k y]).bind fun S' => some (.bool true, S') else some (.bool false, S)) else none
        | _ => none
      | _ => none else none
  | .add k, [.ptr b off, .int k1 x] => if kindEq k k1 then
      (S.h.get b).bind fun o => match o with
      | .cells cs _ _ _ => cs[off]?.bind fun c => match c with
        | .int k3 z => if kindEq k k3 then (S.write b off [.int k (wrapI k (z + x))]).bind fun S' => some (.int k (wrapI k (z + x)), S') else none
        | _ => none
      | _ => none else none
  | .same, [.ptr b off] => some (.ptr b off, S)
  | .apart, [.slice b1 off1 _ _, .slice b2 _ _ _] => if Nat.beq b1 b2 then none else
      (S.h.get b1).bind fun o1 => (S.h.get b2).bind fun o2 => match o1, o2 with
      | .cells cs1 _ none (some _), .cells cs2 _ none (some _) => if Nat.blt off1 cs1.length && Nat.blt 0 cs2.length then some (.bool false, S) else none
      | _, _ => none
  | .cmp, [.str a, .str b] => some (.int .i64 (if strLt a b then -1 else if strEq a b then 0 else 1), S)
  | _, _ => none

/-- What a heavy operation comes to: a value (or none), or a call. -/
inductive Hv where
  | val (v : AV) (S : St)
  | enter (f : FuncId) (args : List AV)
  | round (b : Nat) (args : List AV)

/-- A new block with the value that points to it. -/
def fresh (S : St) (o : AObj) : Option Hv := (S.new o).bind fun (id, S') => some (.val (.ptr id 0) S')

def hasN (n : Nat) : List Nat → Bool
  | [] => false
  | m :: l => Nat.beq n m || hasN n l

def anext (S : St) (r : Nat) (ob : AObj) (isStr : Bool) : Option Hv :=
  match ob, isStr with
  | .siter s pos, true => match s[pos]? with
    | some c => if Nat.blt c 128 then (S.h.set r (.siter s (pos + 1))).bind fun h => some (.val (.tuple [.bool true, .int .i64 (.ofNat pos), .int .i32 (.ofNat c)]) ⟨h, S.next⟩) else none
    | none => some (.val (.tuple [.bool false]) S)
  | .miter none _ _ _, false => some (.val (.tuple [.bool false]) S)
  | .miter (some m) since seen last, false => (S.h.get m).bind fun mo => match mo with
    | .map es clock =>
      if !seen.isEmpty && !es.isEmpty && es.all (fun e => Nat.ble last e.born) then none else
      match es.filter fun e => !hasN e.born seen with
      | [] => some (.val (.tuple [.bool false]) S)
      | [e] => if Nat.blt e.born since then (S.h.set r (.miter (some m) since (seen ++ [e.born]) clock)).bind fun h => some (.val (.tuple [.bool true, e.key, e.val]) ⟨h, S.next⟩) else none
      | _ => none
    | _ => none
  | _, _ => none

variable (xt : FuncId → Option Xt)

def acallF (S : St) (f : FuncId) (args : List AV) : Option Hv :=
  match xt f with
  | some .body => some (.enter f args)
  | some x => (aext S x args).bind fun (v, S') => some (.val v S')
  | none => none

def aheavy (ev : Operand → Option AV) (S : St) (o : Oper) : Option Hv :=
  match o.op with
  | .store t x y => (ev x).bind fun v => (ev y).bind fun w => match v with
    | .ptr b off => (tsize P t).bind fun n => if Nat.beq w.cellsOf.length n then (S.write b off w.cellsOf).bind fun S' => some (.val (.tuple []) S') else none
    | _ => none
  | .mapUpdate t m k x | .insert t m k x => (P.underlying t).bind fun u => match u with
    | .map kt _ => (P.underlying kt).bind fun ku => (ev m).bind fun mv => (ev k).bind fun kv => (ev x).bind fun xv => if plainKey P ku kv then match mv with
      | .map b => (S.h.get b).bind fun ob => match ob with
        | .map es clock => (putK kv xv clock es).bind fun (es', new) => (S.h.set b (.map es' (if new then clock + 1 else clock))).bind fun h => some (.val (.tuple []) ⟨h, S.next⟩)
        | _ => none
      | _ => none else none
    | _ => none
  | .call c => match c.callee with
    | .builtin b => match b, c.args.toList with
      | .append, [s, x] => (ev s).bind fun sv => (ev x).bind fun xv => (aappend P S c.argTypes sv xv).bind fun (v, S') => some (.val v S')
      | .copy, [s, x] => (ev s).bind fun sv => (ev x).bind fun xv => (acopy P S c.argTypes sv xv).bind fun (v, S') => some (.val v S')
      | .unsafeString, [p, n] => (ev p).bind fun pv => (ev n).bind fun nv => match pv, nv with
        | .nilp, .int _ (.ofNat 0) => c.argTypes[0]?.bind fun _ => some (.val (.str []) S)
        | .ptr b off, .int _ (.ofNat m) => c.argTypes[0]?.bind fun pt => (P.underlying pt).bind fun pu => match pu with
          | .pointer u => if Nat.beq m 0 then some (.val (.str []) S) else (S.h.get b).bind fun ob => match ob with
            | .cells cs true kin (some t) => if Nat.beq t u && Nat.beq (P.cellsOf u) 1 && Nat.ble m 65536 then
                (getMany cs off m).bind fun l => (bytesL l).bind fun s => some (.val (.str s) ⟨(match kin with | some k => S.h.del k | none => S.h).del b, S.next⟩)
              else none
            | _ => none
          | _ => none
        | _, _ => none
      | .clear, [x] => c.argTypes[0]?.bind fun t => (P.underlying t).bind fun u => (ev x).bind fun xv => match u, xv with
        | .slice _, .nils => some (.val (.tuple []) S)
        | .slice _, .eslice .. => some (.val (.tuple []) S)
        | .slice e, .slice b off n _ => if Nat.beq n 0 then some (.val (.tuple []) S) else (zeroOf P e).bind fun z => (S.write b off (repeated z.cellsOf n)).bind fun S' => some (.val (.tuple []) S')
        | .slice e, .gslice b skip n esz => if Nat.beq n 0 then some (.val (.tuple []) S) else (zeroOf P e).bind fun z => (S.write b (skip * esz) (repeated z.cellsOf n)).bind fun S' => some (.val (.tuple []) S')
        | _, _ => none
      | .delete, [m, k] => c.argTypes[0]?.bind fun t => (P.underlying t).bind fun u => match u with
        | .map kt _ => (P.underlying kt).bind fun ku => (ev m).bind fun mv => (ev k).bind fun kv => if plainKey0 ku kv then match mv with
          | .nilm => some (.val (.tuple []) S)
          | .map b => (S.h.get b).bind fun ob => match ob with
            | .map es clock => (delK kv es).bind fun es' => (S.h.set b (.map es' clock)).bind fun h => some (.val (.tuple []) ⟨h, S.next⟩)
            | _ => none
          | _ => none else none
        | _ => none
      | _, _ => none
    | .value f => (ev f).bind fun fv => (evL ev c.args.toList).bind fun args => match fv with
      | .func (.func g) first cap => acallF xt S g (first ++ args ++ cap)
      | .yld b => some (.round b args)
      | _ => none
    | .invoke .. => none
  | .convert s d x => (P.underlying s).bind fun us => (P.underlying d).bind fun ud => (ev x).bind fun v => match us, ud, v with
    | .string, .slice e, .str s => (P.underlying e).bind fun ue => match ue with
      | .int .u8 => (S.new (.cells (s.map fun c => .int .u8 (.ofNat c)) true none none)).bind fun (id, S') => some (.val (.gslice id 0 s.length 1) S')
      | _ => none
    | _, _, _ => none
  | .range t x => (P.underlying t).bind fun u => (ev x).bind fun v => match u, v with
    | .string, .str s => fresh S (.siter s 0)
    | .map _ _, .nilm => fresh S (.miter none 0 [] 0)
    | .map _ _, .map m => (S.h.get m).bind fun ob => match ob with
      | .map _ clock => fresh S (.miter (some m) clock [] clock)
      | _ => none
    | _, _ => none
  | .entry it => (ev it).bind fun v => match v with
    | .ptr r off => if Nat.beq off 0 then (S.h.get r).bind fun ob => match ob with
      | .miter (some m) _ seen stepped => seen.getLast?.bind fun stamp => (S.h.get m).bind fun mo => match mo with
        | .map es clock => if Nat.beq clock stepped then (es.find? fun e => Nat.beq e.born stamp).bind fun e => some (.val (.tuple [e.key, e.val]) S) else none
        | _ => none
      | _ => none else none
    | _ => none
  | .next it isStr => (ev it).bind fun v => match v with
    | .ptr r off => if Nat.beq off 0 then (S.h.get r).bind fun ob => anext S r ob isStr else none
    | _ => none
  | _ => none

end
end Go.Sx
