/-
  YtjbpmfglccfkaaaDoorP7: lemmas of this proof (part 7). No conditions.
-/
import Derived.Test.YtjbpmfglccfkaaaDoorP6
import Derived.Handed

/-
  F25C: moves: fields that are mentioned in a graph, and fields that graphs lean on.
-/
namespace Go.GB.C23
open Go.GB Go.GB.C11
set_option linter.unusedSimpArgs false
set_option linter.unusedVariables false
set_option maxRecDepth 100000
set_option maxHeartbeats 4000000
variable {P : Program}

/-- a field that another one requires -/
def reqM (f : Str) (l : List Field) : Bool := l.any fun x => decide (f ∈ setM x.dirs ([114, 101, 113, 117, 105, 114, 101, 115] : Str))
/-- does a graph lean on a field? -/
def leaG (n f : Str) (g : Graph) : Bool := !(((findDef n g.doc).getD Def.zero).kind != 1) && (isKeyM ((findDef n g.doc).getD Def.zero).dirs f || reqM f ((findDef n g.doc).getD Def.zero).fields)
/-- a field of a type that another field of that type provides -/
def prvM (f : Str) (n : Str) (k : Int) (y : Field) : Bool := (k == 1 && y.ty.name == n) && decide (f ∈ setM y.dirs ([112, 114, 111, 118, 105, 100, 101, 115] : Str))
def menM (ds : List Def) (t : Def) (f : Str) : Bool := isKeyM t.dirs f || (reqM f t.fields || ds.any fun x => x.fields.any (prvM f t.name x.kind))
end Go.GB.C23


/-
  F25D: moves: violations of keys.
-/
namespace Go.GB.C23
open Go.GB Go.GB.C11
set_option linter.unusedSimpArgs false
set_option linter.unusedVariables false
set_option maxRecDepth 100000
set_option maxHeartbeats 4000000
variable {P : Program}

def ifM (c : Bool) (x : Fault) : List Fault := if c then [x] else []
/- keys -/
def rootB (n : Str) : Bool := (n == [81, 117, 101, 114, 121] || n == [77, 117, 116, 97, 116, 105, 111, 110]) || n == [83, 117, 98, 115, 99, 114, 105, 112, 116, 105, 111, 110]
/-- a type that is not null, of a leaf type -/
def plainM (ds : List Def) (x : Field) : Bool := (match x.ty.wraps with | [w] => w == 1 | _ => false) && leafM ds x.ty.name
def keyN (ds : List Def) (t : Def) (b : Bool) (n : Str) : Bool :=
  ((b || !(findField n t.fields).isSome) || decide ((((findField n t.fields).getD Field.zero).args.length : Int) > 0)) || !plainM ds ((findField n t.fields).getD Field.zero)
def keyB (ds : List Def) (t : Def) (i : Nat) (k : List Str) : Bool := k.foldl (keyN ds t) ((decide ((i : Int) ≥ 4) || rootB t.name) || ((k.length : Int) == 0))
def keyL (g : Graph) (t : Def) : Nat → List (List Str) → List Fault
  | _, [] => []
  | i, k :: r => ifM (keyB g.doc t i k) ⟨41, g.name ++ [58] ++ t.name⟩ ++ keyL g t (i + 1) r
end Go.GB.C23


/-
  F25E: moves: violations of fields.
-/
namespace Go.GB.C23
open Go.GB Go.GB.C11
set_option linter.unusedSimpArgs false
set_option linter.unusedVariables false
set_option maxRecDepth 100000
set_option maxHeartbeats 4000000
variable {P : Program}

def placeM (g : Graph) (t : Def) (x : Field) : Str := g.name ++ [58] ++ (t.name ++ [46] ++ x.name)
def c1M (gs : List Graph) (a : Nat) (g : Graph) (t : Def) (x : Field) : Bool := hasD ([101, 120, 116, 101, 114, 110, 97, 108] : Str) x.dirs && (!menM g.doc t x.name || !othM a t.name x.name 0 gs)
def c2M (gs : List Graph) (g : Graph) (t : Def) (x : Field) : Bool := hasD ([114, 101, 113, 117, 105, 114, 101, 115] : Str) x.dirs && (((hasD ([101, 120, 116, 101, 114, 110, 97, 108] : Str) x.dirs || gs.any (leaG t.name x.name)) || (((keysD t.dirs).length : Int) == 0)) || !outM g.doc t (setM x.dirs ([114, 101, 113, 117, 105, 114, 101, 115] : Str)))
def c3M (g : Graph) (x : Field) : Bool := (!(findDef x.ty.name g.doc).isSome || ((findDef x.ty.name g.doc).getD Def.zero).kind != 1) || !outM g.doc ((findDef x.ty.name g.doc).getD Def.zero) (setM x.dirs ([112, 114, 111, 118, 105, 100, 101, 115] : Str))
def c4M (gs : List Graph) (a : Nat) (t : Def) (x : Field) : Bool := (!hasD ([101, 120, 116, 101, 114, 110, 97, 108] : Str) x.dirs && othM a t.name x.name 0 gs) && (hasD ([114, 101, 113, 117, 105, 114, 101, 115] : Str) x.dirs || !(hasD ([115, 104, 97, 114, 101, 97, 98, 108, 101] : Str) x.dirs || isKeyM t.dirs x.name))
def fieldF (gs : List Graph) (a : Nat) (g : Graph) (t : Def) (x : Field) : List Fault :=
  ifM (c1M gs a g t x) ⟨42, placeM g t x⟩ ++ (ifM (c2M gs g t x) ⟨43, placeM g t x⟩ ++ ((if hasD ([112, 114, 111, 118, 105, 100, 101, 115] : Str) x.dirs = true then ifM (c3M g x) ⟨44, placeM g t x⟩ else []) ++ ifM (c4M gs a t x) ⟨40, placeM g t x⟩))
end Go.GB.C23


/-
  F25F: moves: keys and joins of graphs.
-/
namespace Go.GB.C23
open Go.GB Go.GB.C11
set_option linter.unusedSimpArgs false
set_option linter.unusedVariables false
set_option maxRecDepth 100000
set_option maxHeartbeats 4000000
variable {P : Program}

structure KeyO where
  ty : Str
  graph : Int
  fields : List Str
def KeyO.enc (k : KeyO) : List T := [.str k.ty, .int .i64 k.graph, .lst (k.fields.map sE)]
structure Jn where
  ty : Str
  field : Str
  graph : Int
  ext : Bool
  req : List Str
  prov : List Str
def Jn.enc (j : Jn) : List T := [.str j.ty, .str j.field, .int .i64 j.graph, .bool j.ext, .lst (j.req.map sE), .lst (j.prov.map sE)]
structure Acc where
  k : List KeyO
  j : List Jn
  b : List Fault

def keyOf (i : Nat) (t : Def) (k : List Str) : KeyO := ⟨t.name, i, k⟩
def jnOf (i : Nat) (t : Def) (x : Field) : Jn := ⟨t.name, x.name, i, hasD ([101, 120, 116, 101, 114, 110, 97, 108] : Str) x.dirs, setM x.dirs ([114, 101, 113, 117, 105, 114, 101, 115] : Str), setM x.dirs ([112, 114, 111, 118, 105, 100, 101, 115] : Str)⟩
def kDef (i : Nat) (t : Def) : List KeyO := if t.kind = 1 then (keysD t.dirs).map (keyOf i t) else []
def jDef (i : Nat) (t : Def) : List Jn := if t.kind = 1 then t.fields.map (jnOf i t) else []
def fL (gs : List Graph) (i : Nat) (g : Graph) (t : Def) : List Field → List Fault
  | [] => []
  | x :: r => fieldF gs i g t x ++ fL gs i g t r
def bDef (gs : List Graph) (i : Nat) (g : Graph) (t : Def) : List Fault := if t.kind = 1 then keyL g t 0 (keysD t.dirs) ++ fL gs i g t t.fields else []
def kDefs (i : Nat) : List Def → List KeyO
  | [] => []
  | t :: r => kDef i t ++ kDefs i r
def jDefs (i : Nat) : List Def → List Jn
  | [] => []
  | t :: r => jDef i t ++ jDefs i r
def bDefs (gs : List Graph) (i : Nat) (g : Graph) : List Def → List Fault
  | [] => []
  | t :: r => bDef gs i g t ++ bDefs gs i g r
def kAll : Nat → List Graph → List KeyO
  | _, [] => []
  | i, g :: r => kDefs i g.doc ++ kAll (i + 1) r
def jAll : Nat → List Graph → List Jn
  | _, [] => []
  | i, g :: r => jDefs i g.doc ++ jAll (i + 1) r
def bAll (gs : List Graph) : Nat → List Graph → List Fault
  | _, [] => []
  | i, g :: r => bDefs gs i g g.doc ++ bAll gs (i + 1) r
structure JoinsB (gs : List Graph) : Prop where
  l : gs.length ≤ 140737488355328
  g : ∀ g, g ∈ gs → GK g.doc
  n : ∀ g, g ∈ gs → g.name.length ≤ 140737488355328
  k : (kAll 0 gs).length ≤ 549755813888
  j : (jAll 0 gs).length ≤ 549755813888
  b : (bAll gs 0 gs).length ≤ 549755813888

end Go.GB.C23


/-
  F25J: shapes of graphs and supergraphs, as laws are handed them.
-/
namespace Go.GB.C23
open Go.GB Go.GB.C11
set_option linter.unusedSimpArgs false
set_option linter.unusedVariables false

theorem str_sh1 {c : List T} (h : Sh.oks YA [.str] c) : ∃ s : Str, c = [.str s] ∧ s.length ≤ 140737488355328 := by
  have := reach_le
  obtain ⟨x, c, rfl, ⟨s, rfl, hs⟩, g⟩ := Sh.oks_cons h
  obtain rfl := Sh.oks_nil g
  exact ⟨s, rfl, by omega⟩
end Go.GB.C23


/-
  GbZH: a law's statement with the bound on its arguments' sizes.
-/
namespace Go.GB
open Go.RowKit Go.WideShapes Go.ChangeShapes
theorem handed {H : Type} {enc : TypeId × Value → H} {a : Assume} {C : Checked} {os : Os} {f : FuncId} {fn : Func} {s : ChangeSpec} {conds : List PathCond} {apart fresh handsOn again : Bool}
    (own : ownKnob C.prog.godebug = none) (started : os.Started) (noInit : C.prog.inits.idxOf? f = none) (hfn : C.prog.funcs[f]? = some fn)
    (witness : ∃ (w : World) (tape : Tape) (i : Go.Input), w.os = os ∧ (w.forCall tape i).Shaped C.prog ∧ i.vars = [] ∧ Go.Input.okWide C.prog (w.forCall tape i) .any w.heap.size f i ∧
      s.pre6 enc C.prog fn conds apart (w.forCall tape i).memory i.args ∧ a.holds C.prog (lone (Frame.enter C.prog f i.args .normal) [] (w.forCall tape i)))
    (contract : ∀ (W : World) (base : Nat) (args : Array Value) (ds gs : List (DataW H)) (before : List MemPlace),
      (∀ (j : Nat) t v, fn.params[j]? = some t → args[j]? = some v → Value.okWide C.prog W .any base t v) →
      DataW.Whole enc C.prog fn.params.toList s.vars apart W args.toList ds gs before →
      (DataW.weightsEach C.prog (fn.params.toList ++ s.plain.varTypes C.prog) (ds ++ gs)).all (· ≤ reachBytes) = true →
      Calls C.prog f args W fun e W' => ∃ v, e = .returned v ∧ s.post enc C.prog fn apart fresh handsOn again W args v W') :
    ReturnsInHanded a C os f .any (s.pre6 enc C.prog fn conds apart) (s.post enc C.prog fn apart fresh handsOn again) := by
  have e : (fun (w : World) (args : Array Value) => (s.pre enc C.prog fn conds apart w args ∧ True) ∧ sizedMet enc C.prog fn (OpenSpec.ofChange s) apart w args) = s.pre6 enc C.prog fn conds apart := by
    funext w args; simp only [and_true]; rfl
  rw [← e]
  obtain ⟨w, tape, i, h1, h2, h3, h4, h5, h6⟩ := witness
  exact returnsInHanded_of_change_and (X := fun _ _ => True) (fun _ _ _ _ _ => trivial) own started noInit hfn ⟨w, tape, i, h1, h2, h3, h4, ⟨⟨h5.1, trivial⟩, h5.2⟩, h6⟩ (fun W base args ds gs before a1 a2 _ a4 _ _ => contract W base args ds gs before a1 a2 a4)
end Go.GB

