/-
  GbC: abstract operations and their evaluation on abstract states.
-/
import Derived.Test.YticfklecmdjklaaGbB
namespace Go.GB

inductive Ar where
  | s (t : Nat)
  | c (v : V)

inductive AOp where
  | cst (v : V)
  | mv (x : Ar)
  | pick (c a b : Ar)
  | un (op : UnOp) (x : Ar)
  | bin (op : BinOp) (x y : Ar)
  | eqb (neg : Bool) (x y : Ar)
  | eqp (neg : Bool) (x : Ar)
  | eqm (neg : Bool) (x : Ar)
  | conv (k : IntKind) (x : Ar)
  | convs (x : Ar)
  | nilck (x : Ar)
  | fa (off : Nat) (x : Ar)
  | ld (ag : Bool) (n : Nat) (x : Ar)
  | ia (sz : Nat) (x i : Ar)
  | iarr (len sz : Nat) (x i : Ar)
  | ixs (x i : Ar)
  | ixa (ag : Bool) (len sz : Nat) (x i : Ar)
  | len (x : Ar)
  | lens (x : Ar)
  | sls (x : Ar) (lo hi : Option Ar)
  | sll (sz : Nat) (x : Ar) (lo hi : Option Ar)
  | fld (ag : Bool) (off n : Nat) (x : Ar)
  | maxi (x y : Ar)
  | mini (x y : Ar)
  | build (zs : List V) (ps : List (Nat × Nat × Ar))
  | mkfn (f : FuncId) (caps : List Ar)
  | lookup (kag vag : Bool) (vz : List T) (ok : Bool) (x k : Ar)
  | lenm (x : Ar)
  | st (n : Nat) (x v : Ar)
  | box (n : Nat) (x : Ar)
  | alloc (zs : List V)
  | bsl (ow : Bool) (sz : Nat) (zs : List (List T)) (ps : List (Nat × Ar))
  | app (sz bytes : Nat) (x y : Ar)
  | ext (x : Ar) (i : Nat)
  | mkmap (kag vag : Bool)
  | mksl (sz bytes : Nat) (z : List V) (n : Ar)
  | mupd (x k v : Ar)
  | mdel (x k : Ar)
  | call (f : FuncId) (args : List Ar)
  | callv (x : Ar) (args : List Ar)

structure AO where
  dst : Option Nat
  g : Option (Nat × Bool)
  op : AOp

def Ar.v (st : St) : Ar → V
  | .s t => look st.env t
  | .c v => v

/-- A guarded value, where its guard holds. -/
def V.ug : V → V
  | .gd c v => if c then v else .top
  | v => v
def Ar.u (st : St) (x : Ar) : V := (x.v st).ug

/-- An operand under a guard. -/
def V.un (gc : Bool) : V → V × List Bool
  | .gd c v => (v, [!gc || c])
  | v => (v, [])

def rd (gc : Bool) (st : St) (x : Ar) : V × List Bool := (x.v st).un gc

/-- the tree of a value, where it is pure -/
def V.cell1 : V → Option T
  | .t x => some x
  | .own _ _ xs => some (.lst xs)
  | .nils => some (.lst [])
  | _ => none
def V.cellsT : V → Option (List T)
  | .agg cs => cs.mapM V.cell1
  | v => (v.cell1).map fun x => [x]

def binT (op : BinOp) : T → T → Option (T × List Bool)
  | .int k a, .int k' b =>
    if k = k' then
      match op with
      | .add => some (.int k (k.wrap (a + b)), [])
      | .sub => some (.int k (k.wrap (a - b)), [])
      | .mul => some (.int k (k.wrap (a * b)), [])
      | .quo => some (.int k (k.wrap (a.tdiv b)), [decide (b ≠ 0)])
      | .rem => some (.int k (a.tmod b), [decide (b ≠ 0)])
      | .eql => some (.bool (a == b), [])
      | .neq => some (.bool (a != b), [])
      | .lss => some (.bool (decide (a < b)), [])
      | .leq => some (.bool (decide (a ≤ b)), [])
      | .gtr => some (.bool (decide (a > b)), [])
      | .geq => some (.bool (decide (a ≥ b)), [])
      | _ => none
    else none
  | .str a, .str b =>
    match op with
    | .add => some (.str (a ++ b), [decide (a.length + b.length ≤ 9223372036854775807)])
    | .eql => some (.bool (a == b), [])
    | .neq => some (.bool (!(a == b)), [])
    | .lss => some (.bool (Op.bytesLess a b), [])
    | .leq => some (.bool (Op.bytesLess a b || a == b), [])
    | .gtr => some (.bool (!(Op.bytesLess a b || a == b)), [])
    | .geq => some (.bool (!(Op.bytesLess a b)), [])
    | _ => none
  | _, _ => none

def setAt (cs : List V) (off : Nat) (vs : List V) : List V :=
  match vs with
  | [] => cs
  | v :: r => setAt (cs.set off v) (off + 1) r

/-- the cells of a part -/
def V.parts : V → Option (List V)
  | .agg cs => some cs
  | .top => none
  | .tup _ => none
  | .gd _ _ => none
  | v => some [v]

def fillV (st : St) (gc : Bool) : List V → List (Nat × Nat × Ar) → Option (List V × List Bool)
  | cs, [] => some (cs, [])
  | cs, (off, n, x) :: r =>
    match rd gc st x with
    | (v, p) =>
      match v.parts with
      | none => none
      | some ps =>
        if ps.length = n ∧ off + n ≤ cs.length then
          match fillV st gc (setAt cs off ps) r with
          | some (c, q) => some (c, p ++ q)
          | none => none
        else none

def capsOf (st : St) : List Ar → Option (List (Nat × Nat))
  | [] => some []
  | x :: r =>
    match x.v st, capsOf st r with
    | .ptr k o, some cs => some ((k, o) :: cs)
    | _, _ => none

def allLen (sz : Nat) (xs : List (List T)) : Bool := xs.all fun c => c.length == sz

def bnd (x : Option Ar) (gc : Bool) (st : St) (d : Int) : Option (Int × List Bool) :=
  match x with
  | none => some (d, [])
  | some x => match rd gc st x with | (.t (.int _ n), p) => some (n, p) | _ => none

/-- Operations that only compute: their value, and what must hold. -/
def evalE (gc : Bool) (st : St) : AOp → Option (V × List Bool)
  | .cst v => some (v, [])
  | .mv x => some (rd gc st x)
  | .pick c a b =>
    match rd gc st c with
    | (.t (.bool cb), p1) =>
      match rd (gc && cb) st a, rd (gc && !cb) st b with
      | (.t (.bool xa), p2), (.t (.bool xb), p3) => some (.t (.bool (bif cb then xa else xb)), p1 ++ (p2 ++ p3))
      | (.t (.bool xa), p2), (_, _) => some (.t (.bool xa), p1 ++ (p2 ++ [cb]))
      | (_, _), (.t (.bool xb), p3) => some (.t (.bool xb), p1 ++ (p3 ++ [!cb]))
      | _, _ => none
    | _ => none
  | .un .not x => match rd gc st x with | (.t (.bool b), p) => some (.t (.bool (!b)), p) | _ => none
  | .un .neg x => match rd gc st x with | (.t (.int k n), p) => some (.t (.int k (k.wrap (0 - n))), p) | _ => none
  | .un _ _ => none
  | .bin op x y =>
    match rd gc st x, rd gc st y with
    | (.t a, p1), (.t b, p2) => (binT op a b).map fun (r, p3) => (.t r, p1 ++ (p2 ++ p3))
    | _, _ => none
  | .eqb neg x y =>
    match rd gc st x, rd gc st y with
    | (.t (.bool a), p1), (.t (.bool b), p2) => some (.t (.bool (if neg then !(a == b) else a == b)), p1 ++ p2)
    | _, _ => none
  | .eqp neg x =>
    match rd gc st x with
    | (.t .nilp, p) => some (.t (.bool (!neg)), p)
    | (.ptr _ _, p) => some (.t (.bool neg), p)
    | (.t (.ptr _), p) => some (.t (.bool neg), p)
    | _ => none
  | .eqm neg x =>
    match rd gc st x with
    | (.t .nilm, p) => some (.t (.bool (!neg)), p)
    | (.mp _, p) => some (.t (.bool neg), p)
    | _ => none
  | .conv k x => match rd gc st x with | (.t (.int _ n), p) => some (.t (.int k (k.wrap n)), p) | _ => none
  | .convs x => match rd gc st x with | (.t (.str s), p) => some (.t (.str s), p) | _ => none
  | .nilck x =>
    match rd gc st x with
    | (.ptr k o, p) => some (.ptr k o, p)
    | (.t (.ptr cs), p) => some (.t (.ptr cs), p)
    | (.t (.fn f), p) => some (.t (.fn f), p)
    | (.fn f c, p) => some (.fn f c, p)
    | _ => none
  | .fa off x =>
    match rd gc st x with
    | (.ptr k o, p) => some (.ptr k (o + off), p)
    | (.t (.ptr cs), p) => some (.t (.ptr (cs.drop off)), p)
    | _ => none
  | .ld ag n x =>
    match rd gc st x with
    | (.t (.ptr cs), p) =>
      if ag then (if n ≤ cs.length then some (.agg ((cs.take n).map V.t), p) else none)
      else match cs[0]? with | some c => some (.t c, p) | none => none
    | (.ptr k o, p) =>
      match aget st.s.sto k with
      | some (.cells cs) =>
        if ag then (if o + n ≤ cs.length then some (.agg (((cs.drop o).take n)), p) else none)
        else match cs[o]? with | some c => some (c, p) | none => none
      | _ => none
    | _ => none
  | .ia sz x i =>
    match rd gc st x, rd gc st i with
    | (v, p1), (.t (.int _ n), p2) =>
      match v with
      | .slc k off len s => if s = sz then some (.ptr k (off + n.toNat * sz), p1 ++ (p2 ++ [decide (0 ≤ n), decide (n < (len : Int))])) else none
      | v => match v.cell1 with
        | some (.lst xs) => match xs[n.toNat]? with
          | some c => if c.length = sz ∧ sz ≠ 0 then some (.t (.ptr c), p1 ++ (p2 ++ [decide (0 ≤ n)])) else none
          | none => none
        | _ => none
    | _, _ => none
  | .iarr len sz x i =>
    match rd gc st x, rd gc st i with
    | (.ptr k o, p1), (.t (.int _ n), p2) => some (.ptr k (o + n.toNat * sz), p1 ++ (p2 ++ [decide (0 ≤ n), decide (n < (len : Int))]))
    | (.t (.ptr cs), p1), (.t (.int _ n), p2) => some (.t (.ptr (cs.drop (n.toNat * sz))), p1 ++ (p2 ++ [decide (0 ≤ n), decide (n < (len : Int))]))
    | _, _ => none
  | .ixs x i =>
    match rd gc st x, rd gc st i with
    | (.t (.str s), p1), (.t (.int _ n), p2) => match s[n.toNat]? with
      | some b => some (.t (.int .u8 b.toNat), p1 ++ (p2 ++ [decide (0 ≤ n)]))
      | none => none
    | _, _ => none
  | .ixa ag len sz x i =>
    match rd gc st x, rd gc st i with
    | (.agg cs, p1), (.t (.int _ n), p2) =>
      if ag then (if n.toNat * sz + sz ≤ cs.length then some (.agg (((cs.drop (n.toNat * sz)).take sz)), p1 ++ (p2 ++ [decide (0 ≤ n), decide (n < (len : Int))])) else none)
      else match cs[n.toNat * sz]? with | some c => some (c, p1 ++ (p2 ++ [decide (0 ≤ n), decide (n < (len : Int))])) | none => none
    | _, _ => none
  | .len x =>
    match rd gc st x with
    | (.t (.lst xs), p) => some (.t (.int .i64 xs.length), p)
    | (.own _ _ xs, p) => some (.t (.int .i64 xs.length), p)
    | (.nils, p) => some (.t (.int .i64 0), p)
    | (.slc _ _ n _, p) => some (.t (.int .i64 n), p)
    | _ => none
  | .lens x => match rd gc st x with | (.t (.str s), p) => some (.t (.int .i64 s.length), p) | _ => none
  | .sls x lo hi =>
    match rd gc st x with
    | (.t (.str s), p) =>
      match bnd lo gc st 0, bnd hi gc st s.length with
      | some (l, p1), some (h, p2) => some (.t (.str ((s.take h.toNat).drop l.toNat)), p ++ (p1 ++ (p2 ++ [decide (0 ≤ l), decide (l ≤ h), decide (h ≤ (s.length : Int))])))
      | _, _ => none
    | _ => none
  | .sll sz x lo hi =>
    match rd gc st x with
    | (v, p) => match v.cell1 with
      | some (.lst xs) =>
        match bnd lo gc st 0, bnd hi gc st xs.length with
        | some (l, p1), some (h, p2) => some (.t (.lst ((xs.take h.toNat).drop l.toNat)), p ++ (p1 ++ (p2 ++ [decide (0 ≤ l), decide (l ≤ h), decide (h ≤ (xs.length : Int)), allLen sz xs])))
        | _, _ => none
      | _ => none
  | .fld ag off n x =>
    match rd gc st x with
    | (.agg cs, p) =>
      if ag then (if off + n ≤ cs.length then some (.agg (((cs.drop off).take n)), p) else none)
      else match cs[off]? with | some c => some (c, p) | none => none
    | _ => none
  | .maxi x y =>
    match rd gc st x, rd gc st y with
    | (.t (.int k a), p1), (.t (.int k' b), p2) => if k = k' then some (.t (.int k (if b > a then b else a)), p1 ++ p2) else none
    | _, _ => none
  | .mini x y =>
    match rd gc st x, rd gc st y with
    | (.t (.int k a), p1), (.t (.int k' b), p2) => if k = k' then some (.t (.int k (if b < a then b else a)), p1 ++ p2) else none
    | _, _ => none
  | .build zs ps =>
    match fillV st gc zs ps with
    | some (cs, p) => some (.agg cs, p)
    | none => none
  | .ext x i =>
    match rd gc st x with
    | (.tup vs, p) => match vs[i]? with | some v => some (v, p) | none => none
    | _ => none
  | .mkfn f caps =>
    match capsOf st caps with
    | some cs => some (.fn f cs, [])
    | none => none
  | _ => none

def pureParts (st : St) (sz : Nat) : List (List T) → List (Nat × Ar) → Option (List (List T))
  | xs, [] => some xs
  | xs, (i, x) :: r =>
    match (x.u st).cellsT with
    | some c => if c.length = sz ∧ i < xs.length then pureParts st sz (xs.set i c) r else none
    | none => none

/-- may a value lie in a cell? -/
def V.cellOk : V → Bool
  | .t _ => true
  | .nils => true
  | .own _ _ _ => true
  | .slc _ _ _ _ => true
  | .ptr _ _ => true
  | .mp _ => true
  | .fn _ _ => true
  | _ => false

def pall : List Bool → Prop
  | [] => True
  | p :: r => p = true ∧ pall r

/-- does a reading operation look at an object? -/
def looksV : V → Bool
  | .ptr _ _ => true
  | .mp _ => true
  | .gd _ (.ptr _ _) => true
  | .gd _ (.mp _) => true
  | _ => false
def looksE (st : St) : AOp → Bool
  | .ld _ _ x => looksV (x.v st)
  | .lookup _ _ _ _ x _ => looksV (x.v st)
  | .lenm x => looksV (x.v st)
  | _ => false

/-- the function has a body -/
def HasB (P : Program) (f : FuncId) : Prop := ∀ args w, (callFunc f args).run P w = .ok (.enter f args) w

/-- A call, in a store: what it hands back and does to the store. -/
def FnAt (P : Program) (f : FuncId) (vs : List V) (base : Nat) (sto : List (Nat × AObj)) (out : Out) : Prop :=
  HasB P f ∧ (∀ k o, (k, o) ∈ out.ob → aget sto k ≠ none ∨ (base ≤ k ∧ k < base + out.n)) ∧
  ∀ (Λ : L) (args : Array Value), RelS Λ ⟨sto, Λ.nxt⟩ → base + out.n ≤ Λ.nxt → (∀ k, base ≤ k → k < base + out.n → k < Λ.nxt ∧ Free Λ k ∧ aget sto k = none) → args.size = vs.length → (∀ (j : Nat) (v : Value) (x : V), args[j]? = some v → vs[j]? = some x → RelV Λ v x) →
    Calls P f args Λ.w fun e w' => ∃ v Λ', e = .returned v ∧ Λ'.w = w' ∧ Kp Λ Λ' ∧ Λ'.nxt = Λ.nxt ∧ RelS Λ' ⟨asets sto out.ob, Λ.nxt⟩ ∧ RelV Λ' v out.v ∧
      ∀ k, Free Λ k → aget sto k = none → (base + out.n ≤ k ∨ (k < base ∧ out.rd = false)) → Free Λ' k

def argsV (st : St) : List Ar → List V
  | [] => []
  | x :: r => x.u st :: argsV st r

def capsV : List (Nat × Nat) → List V
  | [] => []
  | (k, o) :: r => .ptr k o :: capsV r

/-- a call's contract: without objects it must hold in every store -/
def FnEv (P : Program) (f : FuncId) (vs : List V) (base : Nat) (sto : List (Nat × AObj)) (K : Out → Prop) : Prop :=
  ∃ out, (if out.rd then FnAt P f vs base sto out else ∀ s, FnAt P f vs base s out) ∧ K out

/-- a call under a guard that changes nothing: its contract is asked where the guard holds -/
def FnEvG (P : Program) (gc : Bool) (f : FuncId) (vs : List V) (base : Nat) (sto : List (Nat × AObj)) (K : Out → Prop) : Prop :=
  ∃ out : Out, (gc = true → (if out.rd then FnAt P f vs base sto out else ∀ s, FnAt P f vs base s out)) ∧ (out.ob = [] ∧ out.n = 0) ∧ K { out with v := .gd gc out.v }

def callG (P : Program) (gc : Bool) (base : Nat) (st : St) (K : Out → Prop) : AOp → Prop
  | .call f args => FnEvG P gc f (argsV st args) base st.s.sto K
  | _ => False

/-- Operations that change more than their slot. -/
def evX (P : Program) (base : Nat) (st : St) (K : Out → Prop) : AOp → Prop
  | .st n x v =>
    match x.u st with
    | .ptr k o =>
      match aget st.s.sto k with
      | some (.cells cs) =>
        match (v.u st).parts with
        | some vs => (decide (vs.length = n ∧ o + n ≤ cs.length) = true ∧ vs.all V.cellOk = true) ∧ K { v := .top, ob := [(k, .cells (setAt cs o vs))], rd := true }
        | none => False
      | _ => False
    | _ => False
  | .box n x =>
    match (x.u st).parts with
    | some vs => (decide (vs.length = n) = true ∧ vs.all V.cellOk = true) ∧ K { v := .ptr base 0, ob := [(base, .cells vs)], n := 1 }
    | none => False
  | .alloc zs => K { v := .ptr base 0, ob := [(base, .cells zs)], n := 1 }
  | .bsl ow sz zs ps =>
    match pureParts st sz zs ps with
    | some xs => allLen sz xs = true ∧ (if ow then K { v := .own base sz xs, ob := [(base, .arr xs.length)], n := 1 } else K { v := .t (.lst xs) })
    | none => False
  | .app sz bytes x y =>
    match (y.u st).cell1 with
    | some (.lst ys) =>
      match x.u st with
      | .nils => allLen sz ys = true ∧ ys.length * bytes ≤ 140737488355328 ∧ ys.length ≤ 9223372036854775807 ∧ K { v := .own base sz ys, ob := [(base, .arr ys.length)], n := 1 }
      | .own k s xs =>
        match aget st.s.sto k with
        | some (.arr n) => s = sz ∧ n = xs.length ∧ allLen sz ys = true ∧ (xs.length + ys.length) * bytes ≤ 140737488355328 ∧ xs.length + ys.length ≤ 9223372036854775807 ∧
            K { v := .own k sz (xs ++ ys), ob := [(k, .arr (xs.length + ys.length))], rd := true }
        | _ => False
      | _ => False
    | _ => False
  | .mksl sz bytes z n =>
    match n.u st with
    | .t (.int _ m) => (0 ≤ m ∧ m * bytes ≤ 281474976710656 ∧ m ≤ 9223372036854775807 ∧ z.length = sz) ∧
        K { v := .slc base 0 m.toNat sz, ob := [(base, .cells (List.replicate m.toNat z).flatten)], n := 1 }
    | _ => False
  | .call f args => FnEv P f (argsV st args) base st.s.sto K
  | .callv x args =>
    match x.u st with
    | .t (.fn f) => FnEv P f (argsV st args) base st.s.sto K
    | .fn f caps => FnEv P f (argsV st args ++ capsV caps) base st.s.sto K
    | _ => False
  | _ => False

/-- an operation that changes more, under a guard -/
def guardX (P : Program) (gc : Bool) (base : Nat) (st : St) (K : Out → Prop) (op : AOp) : Prop :=
  callG P gc base st K op ∨ ((gc = true → evX P base st K op) ∧ (gc = false → K { v := .gd false .top, rd := looksE st op }))

def evU (P : Program) (base : Nat) (st : St) (op : AOp) (K : Out → Prop) : Prop :=
  match evalE true st op with
  | some (v, ps) => pall ps ∧ K { v := v, rd := looksE st op }
  | none => evX P base st K op

def gcond (want : Bool) : V → Option Bool
  | .t (.bool b) => some (cond want b (!b))
  | .gd c (.t (.bool b)) => some (c && cond want b (!b))
  | .gd false .top => some false
  | _ => none

def evO (P : Program) (base : Nat) (st : St) (ao : AO) (K : Out → Prop) : Prop :=
  match ao.g with
  | none => evU P base st ao.op K
  | some (s, want) =>
    match gcond want (look st.env s) with
    | none => False
    | some gc =>
      match evalE gc st ao.op with
      | some (v, ps) => pall (ps.map fun p => !gc || p) ∧ K { v := .gd gc v, rd := looksE st ao.op }
      | none => guardX P gc base st K ao.op

/-- A region, in the order of the text. -/
def evR (P : Program) (base : Nat) (st : St) : List AO → List (Bool × Bool) → (Nat → St → List (Bool × Bool) → Prop) → Prop
  | [], fl, K => K base st fl
  | ao :: r, fl, K => evO P base st ao fun out => evR P (base + out.n) (st.app ao.dst out) r (fl ++ [(out.rd, !out.ob.isEmpty || decide (0 < out.n))]) K

end Go.GB
