/-
  GbD: the model's operations and code turned into abstract ones. What is chosen here is checked by the proofs behind it (whatever is chosen).
-/
import Derived.Test.YticfklecmdjklaaGbC
namespace Go.GB

def szOf (P : Program) (t : TypeId) : Option Nat := (P.info? t).map (·.size)
def isAggT (P : Program) (t : TypeId) : Bool :=
  match P.underlying t with
  | some (.struct _) | some (.array _ _) => true
  | _ => false

/-- a literal of the program as an abstract value -/
def litV : Value → Option V
  | .bool b => some (.t (.bool b))
  | .int k n => some (.t (.int k n))
  | .string s => some (.t (.str s.data.toList))
  | .pointer none => some (.t .nilp)
  | .map none => some (.t .nilm)
  | .nilFunc => some (.t .nilf)
  | .slice none 0 0 => some .nils
  | _ => none

def opA : Operand → Option Ar
  | .tmp t => some (.s t)
  | .const v => (litV v).map .c
  | .func f => some (.c (.t (.fn f)))
  | .global _ => none

/-- an option of an operand, resolved -/
def opAo : Option Operand → Option (Option Ar)
  | some y => (opA y).map some
  | none => some none

/-- zero cells by type -/
def zeroV (P : Program) : Nat → TypeId → Option (List V)
  | 0, _ => none
  | n + 1, t =>
    match P.underlying t with
    | some .bool => some [.t (.bool false)]
    | some (.int k) => some [.t (.int k 0)]
    | some .string => some [.t (.str [])]
    | some (.pointer _) => some [.t .nilp]
    | some (.map _ _) => some [.t .nilm]
    | some (.func _ _ _) => some [.t .nilf]
    | some (.slice _) => some [.nils]
    | some (.struct fs) => fs.toList.foldr (fun f acc => match zeroV P n f.type, acc with | some a, some b => some (a ++ b) | _, _ => none) (some [])
    | some (.array k e) => (zeroV P n e).map fun z => (List.replicate k z).flatten
    | _ => none

/-- does a zero value's cell stand for the abstract one? -/
def zeroOk : Value → V → Bool
  | .bool b, .t (.bool c) => b == c
  | .int k n, .t (.int j m) => k == j && n == m
  | .string s, .t (.str l) => s.data.toList == l
  | .pointer none, .t .nilp => true
  | .map none, .t .nilm => true
  | .nilFunc, .t .nilf => true
  | .slice none 0 0, .nils => true
  | _, _ => false

def zerosOk : List Value → List V → Bool
  | [], [] => true
  | v :: vs, x :: xs => zeroOk v x && zerosOk vs xs
  | _, _ => false

/-- the zero cells of a type, checked against the program's own zero value -/
def zerosOf (P : Program) (t : TypeId) : Option (List V) :=
  match P.info? t, zeroV P 20 t with
  | some i, some zs =>
    match i.zero with
    | some z => if zerosOk z.cells.toList zs && zs.length == i.size then some zs else none
    | none => none
  | _, _ => none

/-- is a slot's value what an append of the region takes in? -/
def eaten (ops : Array Oper) (t : Nat) : Bool :=
  ops.any fun o =>
    match o.op with
    | .call { callee := .builtin .append, args, .. } => match (args[1]? : Option Operand) with | some (.tmp u) => u == t | _ => false
    | _ => false

def partsOf (place : Nat → Option (Nat × Nat)) : List (Nat × Operand) → Option (List (Nat × Nat × Ar))
  | [] => some []
  | (i, x) :: r =>
    match place i, opA x, partsOf place r with
    | some (off, n), some a, some l => some ((off, n, a) :: l)
    | _, _, _ => none

def placesOf (P : Program) (fs : Array Field) : Option (List (Nat × Nat)) := fs.toList.mapM (fun f => (P.info? f.type).map fun i => (f.offset, i.size))

def slotsOf : List (Nat × Operand) → Option (List (Nat × Ar))
  | [] => some []
  | (i, x) :: r =>
    match opA x, slotsOf r with
    | some a, some l => some ((i, a) :: l)
    | _, _ => none

def resOp (P : Program) (ops : Array Oper) (o : Oper) : Option AOp :=
  match o.op with
  | .move (.tmp t) | .assign (.tmp t) => some (.mv (.s t))
  | .move (.const v) | .assign (.const v) => (litV v).map .cst
  | .move (.func f) | .assign (.func f) => some (.cst (.t (.fn f)))
  | .pick c a b => do some (.pick (← opA c) (← opA a) (← opA b))
  | .unOp op _ x => do some (.un op (← opA x))
  | .binOp op xt x y _ =>
    match P.underlying xt with
    | some (.int _) | some .string => do some (.bin op (← opA x) (← opA y))
    | some .bool =>
      match op with
      | .eql => do some (.eqb false (← opA x) (← opA y))
      | .neq => do some (.eqb true (← opA x) (← opA y))
      | _ => none
    | some (.pointer _) =>
      match op, y with
      | .eql, .const (.pointer none) => do some (.eqp false (← opA x))
      | .neq, .const (.pointer none) => do some (.eqp true (← opA x))
      | _, _ => none
    | some (.map _ _) =>
      match op, y with
      | .eql, .const (.map none) => do some (.eqm false (← opA x))
      | .neq, .const (.map none) => do some (.eqm true (← opA x))
      | _, _ => none
    | _ => none
  | .convert src dst x =>
    match P.underlying src, P.underlying dst with
    | some (.int _), some (.int k) => do some (.conv k (← opA x))
    | some .string, some .string => do some (.convs (← opA x))
    | _, _ => none
  | .nilCheck x => do some (.nilck (← opA x))
  | .fieldAddr s x f =>
    match P.underlying s with
    | some (.struct fs) => do
      let fd ← fs[f]?
      let n ← szOf P fd.type
      if n = 0 then none else some (.fa fd.offset (← opA x))
    | _ => none
  | .load t x => do
    let n ← szOf P t
    match P.underlying t with
    | none => none
    | some _ =>
      if isAggT P t then some (.ld true n (← opA x))
      else some (.ld false 1 (← opA x))
  | .store t x v => do
    let n ← szOf P t
    some (.st n (← opA x) (← opA v))
  | .indexAddr t x ix =>
    match P.underlying t with
    | some (.slice e) => do some (.ia (← szOf P e) (← opA x) (← opA ix))
    | some (.array n e) => do some (.iarr n (← szOf P e) (← opA x) (← opA ix))
    | _ => none
  | .index t x ix =>
    match P.underlying t with
    | some .string => do some (.ixs (← opA x) (← opA ix))
    | some (.array n e) =>
      match P.underlying e with
      | none => none
      | some _ => do some (.ixa (isAggT P e) n (← szOf P e) (← opA x) (← opA ix))
    | _ => none
  | .slice t x lo hi none =>
    match P.underlying t with
    | some .string => do
      let l ← opAo lo
      let h ← opAo hi
      some (.sls (← opA x) l h)
    | some (.slice e) => do
      let l ← opAo lo
      let h ← opAo hi
      some (.sll (← szOf P e) (← opA x) l h)
    | _ => none
  | .field t x f =>
    match P.underlying t with
    | some (.struct fs) => do
      let fd ← fs[f]?
      let n ← szOf P fd.type
      match P.underlying fd.type with
      | none => none
      | some _ => some (.fld (isAggT P fd.type) fd.offset n (← opA x))
    | _ => none
  | .build t parts =>
    match P.underlying t with
    | some (.struct fs) => do
      let pl ← placesOf P fs
      some (.build (← zerosOf P t) (← partsOf (pl.toArray[·]?) parts.toList))
    | some (.array _ e) => do
      let sz ← szOf P e
      some (.build (← zerosOf P t) (← partsOf (fun i => some (i * sz, sz)) parts.toList))
    | _ => none
  | .makeFunc (.func f) first caps => do
    if first.isEmpty then some (.mkfn f (← caps.toList.mapM opA)) else none
  | .alloc t => do some (.alloc (← zerosOf P t))
  | .box t x => do some (.box (← szOf P t) (← opA x))
  | .buildSlice t n parts =>
    match P.underlying t with
    | some (.slice e) => do
      let sz ← szOf P e
      let zs ← zerosOf P e
      let z ← zs.mapM V.cell1
      if n * sz ≤ 16777216 then some (.bsl (!(o.dst.any (eaten ops))) sz (List.replicate n z) (← slotsOf parts.toList)) else none
    | _ => none
  | .extract x ix => do some (.ext (← opA x) ix)
  | .makeMap t none =>
    match P.underlying t with
    | some (.map k e) => some (.mkmap (isAggT P k) (isAggT P e))
    | _ => none
  | .makeSlice t (.tmp l) (.tmp c) =>
    match P.underlying t with
    | some (.slice e) => do
      let inf ← P.info? e
      if l = c then some (.mksl inf.size inf.bytes (← zerosOf P e) (.s l)) else none
    | _ => none
  | .call { callee := .builtin .len, args, argTypes } =>
    match argTypes[0]?, args[0]? with
    | some t, some x =>
      match P.underlying t with
      | some .string => do some (.lens (← opA x))
      | some (.slice _) => do some (.len (← opA x))
      | some (.map _ _) => do some (.lenm (← opA x))
      | _ => none
    | _, _ => none
  | .call { callee := .builtin .max, args, .. } =>
    match args.toList with
    | [x, y] => do some (.maxi (← opA x) (← opA y))
    | _ => none
  | .call { callee := .builtin .min, args, .. } =>
    match args.toList with
    | [x, y] => do some (.mini (← opA x) (← opA y))
    | _ => none
  | .call { callee := .builtin .append, args, argTypes } =>
    match args.toList, argTypes.toList with
    | [x, y], [t, u] =>
      if t = u then
        match P.underlying t with
        | some (.slice e) => do
          let inf ← P.info? e
          let z ← inf.zero
          if inf.size = 0 ∨ z.cells.size ≠ inf.size then none else some (.app inf.size inf.bytes (← opA x) (← opA y))
        | _ => none
      else none
    | _, _ => none
  | .call { callee := .value (.func f), args, .. } => do some (.call f (← args.toList.mapM opA))
  | .call { callee := .value (.tmp t), args, .. } => do some (.callv (.s t) (← args.toList.mapM opA))
  | _ => none

def resO (P : Program) (ops : Array Oper) (o : Oper) : Option AO :=
  match resOp P ops o with
  | none => none
  | some op =>
    match o.guard with
    | none => some ⟨o.dst, none, op⟩
    | some (j, want) =>
      match (ops[j]?).bind (·.dst) with
      | some s => some ⟨o.dst, some (s, want), op⟩
      | none => none

def resOs (P : Program) (ops : Array Oper) : List Oper → Option (List AO)
  | [] => some []
  | o :: r =>
    match resO P ops o, resOs P ops r with
    | some a, some l => some (a :: l)
    | _, _ => none

inductive ACode where
  | skip
  | region (draw : Bool) (ops : List AO) (after : List (List Nat)) (live : List Nat)
  | seq (a b : ACode)
  | cond (c : Ar) (a b : ACode)
  | block (id : Nat) (c : ACode)
  | loop (c : ACode)
  | exit (id : Nat)
  | ret

def afterOf (ops : Array Oper) : List (List Nat) :=
  ops.toList.map fun o => (o.after.toList.filter (Region.binds .any)).map (·.on)

/-- the code, without its lists of live slots -/
def resC (P : Program) : Code → Option ACode
  | .skip => some .skip
  | .region _ ops draw =>
    match resOs P ops ops.toList with
    | some l => some (.region draw l (if draw then afterOf ops else []) [])
    | none => none
  | .seq a b => match resC P a, resC P b with | some x, some y => some (.seq x y) | _, _ => none
  | .cond c a b => match opA c, resC P a, resC P b with | some z, some x, some y => some (.cond z x y) | _, _, _ => none
  | .block id c => (resC P c).map (.block id)
  | .loop c => (resC P c).map .loop
  | .exit id => some (.exit id)
  | .ret => some .ret
  | _ => none

def ACode.bare : ACode → ACode
  | .region d o a _ => .region d o a []
  | .seq a b => .seq a.bare b.bare
  | .cond c a b => .cond c a.bare b.bare
  | .block id c => .block id c.bare
  | .loop c => .loop c.bare
  | c => c

end Go.GB
