/- The machine on numbered blocks: code and calls. Definitions alone. -/
import Derived.Test.YtbnjflmahipanaaGreatDoorSxDef
import Derived.Orders
namespace Go.Sx
set_option linter.unusedSimpArgs false
set_option linter.unusedVariables false

mutual
def avEq : AV → AV → Bool
  | .bool a, .bool b => a == b
  | .int k a, .int k' b => kindEq k k' && intEq a b
  | .str a, .str b => strEq a b
  | .nilp, .nilp | .nils, .nils | .nilm, .nilm | .nilf, .nilf | .nili, .nili => true
  | .ptr a b, .ptr c d => Nat.beq a c && Nat.beq b d
  | .slice a b c d, .slice e f g h => Nat.beq a e && Nat.beq b f && Nat.beq c g && Nat.beq d h
  | .gslice a b c d, .gslice e f g h => Nat.beq a e && Nat.beq b f && Nat.beq c g && Nat.beq d h
  | .map a, .map b => Nat.beq a b
  | .func (.func f) x y, .func (.func g) z u => Nat.beq f g && avEqL x z && avEqL y u
  | .iface t x, .iface u y => Nat.beq t u && avEq x y
  | .agg x, .agg y | .tuple x, .tuple y => avEqL x y
  | .opq k, .opq l => Nat.beq k l
  | .ops a b c, .ops d e f => Nat.beq a d && Nat.beq b e && Nat.beq c f
  | .gptr a b, .gptr c d => Nat.beq a c && Nat.beq b d
  | .yld a, .yld b => Nat.beq a b
  | .eslice a b c d, .eslice e f g h => Nat.beq a e && Nat.beq b f && Nat.beq c g && Nat.beq d h
  | _, _ => false
def avEqL : List AV → List AV → Bool
  | [], [] => true
  | a :: x, b :: y => avEq a b && avEqL x y
  | _, _ => false
end

section
variable (P : Program) (G : Nat → Option (List AV)) (xt : FuncId → Option Xt)

def aeval (T : Tr AV) : Operand → Option AV
  | .tmp t => T.get t
  | .const v => ofValue 3 v
  | .global g => some (.gptr g 0)
  | .func f => some (.func (.func f) [] [])

def put (nt : Nat) (T : Tr AV) (dst : Option Tmp) (v : AV) : Option (Tr AV) :=
  match dst with
  | none => some T
  | some d => if Nat.blt d nt then T.set d v else none

/-- Is an operation wanted? none: not known. -/
def awanted (ops : Array Oper) (T : Tr AV) (o : Oper) : Option Bool :=
  match o.guard with
  | none => some true
  | some (j, want) => match (ops[j]?).bind (·.dst) with
    | none => some false
    | some t => (T.get t).bind fun v => match v with
      | .bool b => some (b == want)
      | .tuple _ => some false
      | _ => none

abbrev Cal := FuncId → List AV → St → Option (AV × St)

/-- A round of a loop over a function. -/
abbrev RCal := Nat → List AV → St → Option (AV × St)

/-- One operation of a region in the order of the text. -/
def aop (cal : Cal) (rcal : RCal) (rd : Bool) (nt : Nat) (o : Oper) (c : Cx) : Option Cx :=
  match classOf P o with
  | .pure => (apure P (aeval c.T) o).bind fun v => (put nt c.T o.dst v).bind fun T => some ⟨T, c.S, c.D⟩
  | .read => (aread P G (aeval c.T) c.S.h.get o).bind fun v => (put nt c.T o.dst v).bind fun T => some ⟨T, c.S, c.D⟩
  | .alloc => (aalloc P (aeval c.T) c.S.next o).bind fun (v, ob) => (c.S.new ob).bind fun (_, S) => (put nt c.T o.dst v).bind fun T => some ⟨T, S, c.D⟩
  | .heavy => match o.op with
    | .defer d => if rd then none else match d.callee with
      | .value f => (aeval c.T f).bind fun fv => (evL (aeval c.T) d.args.toList).bind fun args => match fv with
        | .func (.func g) first cap => (match xt g with | some .body => some () | _ => none).bind fun _ => (put nt c.T o.dst (.tuple [])).bind fun T => some ⟨T, c.S, .fn g (first ++ args ++ cap) :: c.D⟩
        | _ => none
      | _ => none
    | _ => (aheavy P xt (aeval c.T) c.S o).bind fun hv => match hv with
      | .val v S => (put nt c.T o.dst v).bind fun T => some ⟨T, S, c.D⟩
      | .enter f args => (cal f args c.S).bind fun (v, S) => (put nt c.T o.dst v).bind fun T => some ⟨T, S, c.D⟩
      | .round b args => (rcal b args c.S).bind fun (v, S) => (put nt c.T o.dst v).bind fun T => some ⟨T, S, c.D⟩

def aops (cal : Cal) (rcal : RCal) (rd : Bool) (nt : Nat) (ops : Array Oper) : List Oper → Cx → Option Cx
  | [], c => some c
  | o :: l, c => (awanted ops c.T o).bind fun w =>
    if w then (aop P G xt cal rcal rd nt o c).bind fun c' => aops cal rcal rd nt ops l c'
    else (put nt c.T o.dst (.tuple [])).bind fun T => aops cal rcal rd nt ops l ⟨T, c.S, c.D⟩

/-! ### A region whose order is drawn -/

inductive RK where
  | quiet
  | read
  | alloc (ob : AObj)
  | heavy (S S' : St)

structure Rec where
  o : Oper
  i : Nat
  m : Nat
  T : Tr AV
  v : AV
  k : RK

def maskAt (on : Nat) : List Rec → Option Nat
  | [] => none
  | r :: rs => if Nat.beq r.i on then some r.m else maskAt on rs

/-- The numbers of those that come before, as bits. -/
def dmask (rs : List Rec) : List Edge → Nat → Option Nat
  | [], m => some m
  | e :: es, m => if Region.binds .any e then (maskAt e.on rs).bind fun k => dmask rs es (Nat.lor (Nat.lor m k) (Nat.pow 2 e.on)) else dmask rs es m

def dapart (ops : Array Oper) (o : Oper) (m : Nat) : List Rec → Bool
  | [] => true
  | p :: rs => (Nat.testBit m p.i || p.o.apart ops o) && dapart ops o m rs

def dheavy (m : Nat) : List Rec → Bool
  | [] => true
  | p :: rs => (match p.k with | .heavy _ _ => Nat.testBit m p.i | _ => true) && dheavy m rs

/-- The new blocks that no call has needed as yet. -/
def dpend : List Rec → List (Nat × AObj)
  | [] => []
  | r :: rs => match r.k with
    | .alloc ob => (r.i, ob) :: dpend rs
    | .heavy _ _ => (dpend rs).filter fun p => !Nat.testBit r.m p.1
    | _ => dpend rs

def commit (base : Nat) : List (Nat × AObj) → St → Option St
  | [], S => some S
  | (i, ob) :: l, S => (S.h.set (base + i) ob).bind fun h => commit base l ⟨h, S.next⟩

def lookB (t : Nat) : List Operand → Bool
  | [] => false
  | .tmp u :: l => Nat.beq t u || lookB t l
  | _ :: l => lookB t l

/-- The operands of one operation, and no others. -/
def evD (T : Tr AV) (o : Oper) : Operand → Option AV
  | .tmp t => if lookB t o.op.operands.toList then T.get t else none
  | x => aeval T x

def hop (cal : Cal) (T : Tr AV) (S : St) (o : Oper) : Option (AV × St) :=
  (aheavy P xt (evD T o) S o).bind fun hv => match hv with
    | .val v S => some (v, S)
    | .enter f args => cal f args S
    | .round _ _ => none

def dgo (cal : Cal) (nt base : Nat) (ops : Array Oper) : List Oper → Nat → List Rec → Tr AV → St → Option (List Rec × Tr AV × St)
  | [], _, rs, T, S => some (rs, T, S)
  | o :: l, i, rs, T, S => (dmask rs o.after.toList 0).bind fun m =>
    if dapart ops o m rs then (awanted ops T o).bind fun w =>
      if w then match classOf P o with
        | .pure => (apure P (evD T o) o).bind fun v => (put nt T o.dst v).bind fun T' => dgo cal nt base ops l (i + 1) (⟨o, i, m, T, v, .quiet⟩ :: rs) T' S
        | .read => (aread P G (evD T o) S.h.get o).bind fun v => (put nt T o.dst v).bind fun T' => dgo cal nt base ops l (i + 1) (⟨o, i, m, T, v, .read⟩ :: rs) T' S
        | .alloc => (aalloc P (evD T o) (base + i) o).bind fun (v, ob) => (put nt T o.dst v).bind fun T' => dgo cal nt base ops l (i + 1) (⟨o, i, m, T, v, .alloc ob⟩ :: rs) T' S
        | .heavy => if dheavy m rs then (commit base ((dpend rs).filter fun p => Nat.testBit m p.1) S).bind fun Sc => (hop P xt cal T Sc o).bind fun (v, S') =>
            (put nt T o.dst v).bind fun T' => dgo cal nt base ops l (i + 1) (⟨o, i, m, T, v, .heavy Sc S'⟩ :: rs) T' S'
          else none
      else (put nt T o.dst (.tuple [])).bind fun T' => dgo cal nt base ops l (i + 1) (⟨o, i, m, T, .tuple [], .quiet⟩ :: rs) T' S
    else none

def rchk (r : Rec) (S : St) : Bool :=
  match aread P G (evD r.T r.o) S.h.get r.o with
  | some v => avEq v r.v
  | none => false

/-- A read gives the same wherever it may come. -/
def rchks (S0 : St) (r : Rec) : List Rec → Bool
  | [] => rchk P G r S0
  | h :: rs => match h.k with
    | .heavy _ S' => (Nat.testBit h.m r.i || rchk P G r S') && (Nat.testBit r.m h.i || rchks S0 r rs)
    | _ => rchks S0 r rs

def reads (S0 : St) (full : List Rec) : List Rec → Bool
  | [] => true
  | r :: rs => (match r.k with | .read => rchks P G S0 r full | _ => true) && reads S0 full rs

def adraw (cal : Cal) (nt : Nat) (ops : Array Oper) (c : Cx) : Option Cx :=
  (dgo P G xt cal nt c.S.next ops ops.toList 0 [] c.T ⟨c.S.h, c.S.next + ops.size⟩).bind fun (rs, T, S) =>
    if reads P G ⟨c.S.h, c.S.next + ops.size⟩ rs rs then (commit c.S.next (dpend rs) S).bind fun S' => some ⟨T, S', c.D⟩ else none

/-- The jump that a round has left. -/
def afterLoop (pend : Option Code) (c : Cx) : Option (Ex × Cx) :=
  match pend with
  | none => some (.normal, c)
  | some .ret => some (.ret, c)
  | some (.exit id) => some (.exit id, c)
  | _ => none

def exec (cal : Cal) (rcal : RCal) (rd : Bool) (nt : Nat) : Nat → Code → Cx → Option (Ex × Cx)
  | 0, _, _ => none
  | n + 1, code, c => match code with
    | .skip | .label _ => some (.normal, c)
    | .region _ ops draw => (if draw then adraw P G xt cal nt ops c else aops P G xt cal rcal rd nt ops ops.toList c).bind fun c' => some (.normal, c')
    | .seq a b => (exec cal rcal rd nt n a c).bind fun (e, c') => match e with
      | .normal => exec cal rcal rd nt n b c'
      | e => some (e, c')
    | .cond x a b => (aeval c.T x).bind fun v => match v with
      | .bool true => exec cal rcal rd nt n a c
      | .bool false => exec cal rcal rd nt n b c
      | _ => none
    | .block id body => (exec cal rcal rd nt n body c).bind fun (e, c') => match e with
      | .exit id' => if Nat.beq id' id then some (.normal, c') else some (.exit id', c')
      | e => some (e, c')
    | .loop body => (exec cal rcal rd nt n body c).bind fun (e, c') => match e with
      | .normal => exec cal rcal rd nt n (.loop body) c'
      | e => some (e, c')
    | .rangeFunc f ps assign body => if rd then none else (aeval c.T f).bind fun fv => match fv with
      | .func (.func g) first cap => (match xt g with | some .body => some () | _ => none).bind fun _ =>
        (c.S.new .defd).bind fun (bd, S1) => (S1.new (.loop ⟨c.T, nt, ps.toList, assign, body⟩ .ready none)).bind fun (bl, S2) =>
        (cal g (first ++ [AV.yld bl] ++ cap) S2).bind fun (_, S3) => (S3.h.get bl).bind fun ob => match ob with
          | .loop _ st pend => match st with
            | .busy => none
            | _ => afterLoop pend ⟨c.T, ⟨S3.h.del bl, S3.next⟩, .mark bd :: c.D⟩
          | _ => none
      | _ => none
    | .exit id => some (.exit id, c)
    | .ret => some (.ret, c)
    | _ => none

def initT : Nat → List AV → Tr AV → Option (Tr AV)
  | _, [], T => some T
  | i, v :: l, T => (T.set i v).bind fun T' => initT (i + 1) l T'

def aresults (T : Tr AV) (S : St) : List ResultVar → Option (List AV)
  | [] => some []
  | .tmp t :: l => (T.get t).bind fun v => (aresults T S l).bind fun vs => some (v :: vs)
  | .cell a t :: l => (T.get a).bind fun p => match p with
    | .ptr b off => (S.h.get b).bind fun ob => match ob with
      | .cells cs _ _ _ => ((isAggT P t).bind fun g => if g then (tsize P t).bind fun n => (getMany cs off n).bind fun l => some (AV.agg l) else cs[off]?).bind fun v =>
        (aresults T S l).bind fun vs => some (v :: vs)
      | .arr A m z => ((isAggT P t).bind fun g => if g then (tsize P t).bind fun n => if Nat.ble (off + n) m then some (AV.agg (arrList A z off n)) else none else if Nat.blt off m then some (arrAt A z off) else none).bind fun v =>
        (aresults T S l).bind fun vs => some (v :: vs)
      | _ => none
    | _ => none

def single : List AV → AV
  | [v] => v
  | vs => .tuple vs

def adefers (cal : Cal) : List ADef → St → Option St
  | [], S => some S
  | .fn f args :: ds, S => (cal f args S).bind fun (_, S') => adefers cal ds S'
  | .mark b :: ds, S => (S.h.get b).bind fun ob => match ob with
    | .defd => adefers cal ds ⟨S.h.del b, S.next⟩
    | _ => none

/-- What a round's parameters come to. -/
def setPs (nt : Nat) : List Tmp → List AV → Tr AV → Option (Tr AV)
  | [], [], T => some T
  | p :: ps, v :: vs, T => (put nt T (some p) v).bind fun T' => setPs nt ps vs T'
  | _, _, _ => none

/-- The jump behind a round's body. -/
def jumpOf : Ex → Option Code
  | .normal => none
  | .exit id => some (.exit id)
  | .ret => some .ret

/-- A function that looks first whether it is called by a panic, and is not. -/
def recFirst : Code → Option (Option Tmp × List Oper × Code)
  | .seq (.region _ ops false) rest => match ops.toList with
    | o :: l => match o.op, o.guard with
      | .call { callee := .builtin .recover, .. }, none => some (o.dst, l, rest)
      | _, _ => none
    | [] => none
  | _ => none

/-- Operations that need no memory, one behind the other. -/
def apures (nt : Nat) : List Oper → Tr AV → Option (Tr AV)
  | [], T => some T
  | o :: l, T => match o.guard, classOf P o with
    | none, .pure => (apure P (aeval T) o).bind fun v => (put nt T o.dst v).bind fun T' => apures nt l T'
    | _, _ => none

inductive Cle where
  | fn (one : Bool) (f : FuncId)
  | yield (b : Nat)

/-- A call of a function that has a body (one: as a deferred call), or a round; M: calls that are known already. -/
def callx (M : Cal) : Nat → Cle → List AV → St → Option (AV × St)
  | 0 => fun _ _ _ => none
  | n + 1 => fun cl args S => match cl with
    | .fn one f => match (if one then none else M f args S) with
      | some r => some r
      | none => (P.funcs[f]?).bind fun fn => fn.body.bind fun body =>
      if Nat.ble args.length fn.ntmps then
        (initT 0 args .nil).bind fun T =>
          if one then (match recFirst body with
            | some (dst, l, rest) => (put fn.ntmps T dst .nili).bind fun T1 => (apures P fn.ntmps l T1).bind fun T2 =>
              exec P G xt (fun f => callx M n (.fn false f)) (fun b => callx M n (.yield b)) false fn.ntmps n rest ⟨T2, S, []⟩
            | none => exec P G xt (fun f => callx M n (.fn false f)) (fun b => callx M n (.yield b)) false fn.ntmps n body ⟨T, S, []⟩).bind fun (e, c) => match e with
              | .exit _ => none
              | _ => match c.D with
                | [] => (aresults P c.T c.S fn.results.toList).bind fun vs => some (single vs, c.S)
                | _ :: _ => none
          else (exec P G xt (fun f => callx M n (.fn false f)) (fun b => callx M n (.yield b)) false fn.ntmps n body ⟨T, S, []⟩).bind fun (e, c) => match e with
            | .exit _ => none
            | _ => (adefers (fun f => callx M n (.fn true f)) c.D c.S).bind fun S' => (aresults P c.T S' fn.results.toList).bind fun vs => some (single vs, S')
      else none
    | .yield b => (S.h.get b).bind fun ob => match ob with
      | .loop L .ready _ => (setPs L.nt L.ps args L.T).bind fun T =>
        (exec P G xt (fun f => callx M n (.fn false f)) (fun b => callx M n (.yield b)) true L.nt n L.assign ⟨T, S, []⟩).bind fun (e, c) => match e with
          | .normal => (c.S.h.get b).bind fun ob1 => match ob1 with
            | .loop L1 .ready pend => (c.S.h.set b (.loop L1 .busy pend)).bind fun h1 =>
              (exec P G xt (fun f => callx M n (.fn false f)) (fun b => callx M n (.yield b)) true L.nt n L.body ⟨c.T, ⟨h1, c.S.next⟩, c.D⟩).bind fun (e2, c2) =>
              (c2.S.h.get b).bind fun ob2 => match ob2 with
                | .loop L2 _ _ => (c2.S.h.set b (.loop L2 (match e2 with | .normal => .ready | _ => .done) (jumpOf e2))).bind fun h2 =>
                  some (.bool (match e2 with | .normal => true | _ => false), ⟨h2, c2.S.next⟩)
                | _ => none
            | _ => none
          | _ => none
      | _ => none

end
end Go.Sx
