/-
  YtjbpmfglccfkaaaDoorP7: lemmas of this proof (part 7). No conditions.
-/
import Derived.Test.YtjbpmfglccfkaaaDoorP6
import Derived.Test.YtjbpmfglccfkaaaDoorP4
import Derived.Test.YtjbpmfglccfkaaaDoorP5

/-
  F23N: what the bulk of a document says of its directives.
-/
namespace Go.GB.C23
open Go.GB Go.GB.C11

theorem mem_bulk {α : Type} {f : α → List T} : ∀ {l : List α} {x : α}, x ∈ l → bulkL (f x) ≤ bulkLL (l.map f)
  | y :: r, x, h => by
    simp only [List.map_cons, bulkLL]
    rcases List.mem_cons.1 h with rfl | h
    · omega
    · have := mem_bulk (f := f) h; omega
theorem len_bulk {α : Type} {f : α → List T} (h : ∀ x, 1 ≤ bulkL (f x)) : ∀ l : List α, l.length ≤ bulkLL (l.map f)
  | [] => by simp
  | y :: r => by
    have := len_bulk h r
    have := h y
    simp only [List.map_cons, bulkLL, List.length_cons]; omega
theorem dir_b (d : Dir) : 1 ≤ bulkL d.enc := by simp only [Dir.enc, bulkL, T.bulk]; omega
theorem dirs_b (l : List Dir) : l.length ≤ bulkLL (l.map Dir.enc) := len_bulk dir_b l
theorem dok_of {d : Dir} (ho : d.Ok) (hb : bulkL d.enc ≤ 1048576) : DOk d := by
  refine ⟨ho.l, ho.nm, fun a ha => ?_⟩
  have h1 := mem_bulk (f := Arg.enc) ha
  simp only [Dir.enc, bulkL, T.bulk] at hb
  simp only [Arg.enc, bulkL, T.bulk] at h1
  exact ⟨by omega, ho.a a ha, by omega⟩
theorem dsok_of {l : List Dir} (ho : ∀ d, d ∈ l → d.Ok) (hb : bulkLL (l.map Dir.enc) ≤ 1048576) : DsOk l :=
  ⟨by have := dirs_b l; omega, fun d hd => dok_of (ho d hd) (by have := mem_bulk (f := Dir.enc) hd; omega)⟩
theorem inpD_of {a : Input} (ho : a.Ok) (hb : bulkL a.enc ≤ 1048576) : InpD a := by
  simp only [Input.enc, bulkL, T.bulk] at hb
  exact ⟨ho.nm, dsok_of ho.d (by omega)⟩
theorem fldD_of {a : Field} (ho : a.Ok) (hb : bulkL a.enc ≤ 1048576) : FldD a := by
  simp only [Field.enc, bulkL, T.bulk] at hb
  exact ⟨ho.nm, dsok_of ho.d (by omega), ho.al, fun x hx => inpD_of (ho.a x hx) (by have := mem_bulk (f := Input.enc) hx; omega)⟩
theorem memD_of {a : Member} (ho : a.Ok) (hb : bulkL a.enc ≤ 1048576) : MemD a := by
  simp only [Member.enc, bulkL, T.bulk] at hb
  exact ⟨ho.nm, dsok_of ho.d (by omega)⟩
theorem inp_b (d : Input) : 1 ≤ bulkL d.enc := by simp only [Input.enc, bulkL, T.bulk]; omega
theorem fld_b (d : Field) : 1 ≤ bulkL d.enc := by simp only [Field.enc, bulkL, T.bulk]; omega
theorem mem_b (d : Member) : 1 ≤ bulkL d.enc := by simp only [Member.enc, bulkL, T.bulk]; omega
theorem defD_of {a : Def} (ho : a.Ok) (hb : bulkL a.enc ≤ 1048576) : DefD a := by
  simp only [Def.enc, bulkL, T.bulk] at hb
  have h1 := len_bulk fld_b a.fields
  have h2 := len_bulk mem_b a.members
  have h3 := len_bulk inp_b a.inputs
  exact ⟨by omega, dsok_of ho.d (by omega), by omega, fun x hx => fldD_of (ho.f x hx) (by have := mem_bulk (f := Field.enc) hx; omega), by omega, fun x hx => memD_of (ho.m x hx) (by have := mem_bulk (f := Member.enc) hx; omega), by omega, fun x hx => inpD_of (ho.n x hx) (by have := mem_bulk (f := Input.enc) hx; omega)⟩
theorem docD_of {ds : List Def} (ho : DocOk ds) (hb : bulkLL (ds.map Def.enc) ≤ 1048576) : ∀ t, t ∈ ds → DefD t :=
  fun t ht => defD_of (ho.d t ht) (by have := mem_bulk (f := Def.enc) ht; omega)
theorem argL_len (s : Str) : ∀ l : List Input, (argL s l).length ≤ bulkLL (l.map Input.enc)
  | [] => by simp [argL]
  | a :: r => by
    have h1 := argL_len s r
    have h2 := usesF_len 0 (s ++ [40] ++ a.name ++ [41]) a.dirs []
    have h3 := dirs_b a.dirs
    simp only [argL, List.length_append, List.map_cons, bulkLL, Input.enc, bulkL, T.bulk] at h1 ⊢; omega
theorem fldL_len (s : Str) (pl : Int) : ∀ l : List Field, (fldL s pl l).length ≤ bulkLL (l.map Field.enc)
  | [] => by simp [fldL]
  | a :: r => by
    have h1 := fldL_len s pl r
    have h2 := usesF_len pl (s ++ [46] ++ a.name) a.dirs []
    have h3 := dirs_b a.dirs
    have h4 := argL_len (s ++ [46] ++ a.name) a.args
    simp only [fldL, List.length_append, List.map_cons, bulkLL, Field.enc, bulkL, T.bulk] at h1 ⊢; omega
theorem memL_len (s : Str) (pl : Int) : ∀ l : List Member, (memL s pl l).length ≤ bulkLL (l.map Member.enc)
  | [] => by simp [memL]
  | a :: r => by
    have h1 := memL_len s pl r
    have h2 := usesF_len pl (s ++ [46] ++ a.name) a.dirs []
    have h3 := dirs_b a.dirs
    simp only [memL, List.length_append, List.map_cons, bulkLL, Member.enc, bulkL, T.bulk] at h1 ⊢; omega
theorem inpL_len (s : Str) : ∀ l : List Input, (inpL s l).length ≤ bulkLL (l.map Input.enc)
  | [] => by simp [inpL]
  | a :: r => by
    have h1 := inpL_len s r
    have h2 := usesF_len 0 (s ++ [46] ++ a.name) a.dirs []
    have h3 := dirs_b a.dirs
    simp only [inpL, List.length_append, List.map_cons, bulkLL, Input.enc, bulkL, T.bulk] at h1 ⊢; omega
theorem partL_len (t : Def) : (partL t).length ≤ bulkLL (t.fields.map Field.enc) + bulkLL (t.members.map Member.enc) + bulkLL (t.inputs.map Input.enc) := by
  have h1 := fldL_len t.name 4 t.fields
  have h2 := fldL_len t.name 8 t.fields
  have h3 := memL_len t.name 0 t.members
  have h4 := memL_len t.name 16 t.members
  have h5 := inpL_len t.name t.inputs
  unfold partL
  split
  · omega
  · split
    · omega
    · split
      · omega
      · split
        · omega
        · split
          · omega
          · simp
theorem chkD_len : ∀ ds : List Def, (chkD ds).length ≤ bulkLL (ds.map Def.enc)
  | [] => by simp [chkD]
  | t :: r => by
    have h1 := chkD_len r
    have h2 := partL_len t
    have h3 := usesF_len (ownP t.kind) t.name t.dirs []
    have h4 := dirs_b t.dirs
    simp only [chkD, defL, List.length_append, List.map_cons, bulkLL, Def.enc, bulkL, T.bulk] at h1 ⊢; omega
end Go.GB.C23


/-
  F23P: the laws of directives, for documents of bounded bulk.
-/
namespace Go.GB.C23
open Go.GB Go.GB.C11
variable {P : Program}
theorem check23U_ok (H : Pr23 P) (ds : List Def) (ho : DocOk ds) (hb : bulkLL (ds.map Def.enc) ≤ 1048576) : FnOk P 4 [docV ds] ⟨[], 0⟩ { v := .t (.bool true) } := by
  have h1 := chkD_len ds
  exact check23_ok H ds ho ho.l (docD_of ho hb) (by omega)
end Go.GB.C23


/-
  D11R: shapes of chapter 11's arguments.
-/
namespace Go.GB.C11
open Go.GB

theorem spV_ok {P : Program} {vt : TypeId} (hb : P.bytesOf vt = 80) (hs : shOf P (spV vt) 6 vt = some valSh) :
    ∀ e i n xs, spV vt e = some i → xs.length * P.bytesOf e ≤ reachBytes → xs.length ≤ maxLen → (∀ c ∈ xs, WT P n e c) → YA i (.lst xs) := by
  have hv := val_wt hb hs
  intro e i k xs he hr hl hc
  have := reach_le
  unfold spV at he
  split at he
  · rename_i e1; subst e1
    simp only [Option.some.injEq] at he; subst he
    obtain ⟨l, rfl, h3⟩ := choose_map (f := Val.enc) (Q := Val.Ok) xs fun c hcm => hv k c (hc c hcm)
    rw [hb] at hr
    exact ⟨l, rfl, by unfold B47; simp at hr; omega, h3⟩
  · cases he
end Go.GB.C11


/-
  F25A: moves: sets of fields that directives name; keys of types.
-/
namespace Go.GB.C23
open Go.GB Go.GB.C11
set_option linter.unusedSimpArgs false
set_option linter.unusedVariables false
set_option maxRecDepth 100000
set_option maxHeartbeats 4000000
structure Pr25 (P : Program) : Prop extends Pr23 P where
  i64 : fnInfo P 64 = some (n64, c64.bare, r64)

variable {P : Program}

/- what is said of the texts of values -/
/-- directives of a document of bounded bulk -/
structure DK (ds : List Dir) : Prop where
  l : ds.length ≤ 1048576
  d : ∀ d, d ∈ ds → DOk d
theorem DK.len {l : List Dir} (h : DK l) : l.length ≤ 140737488355328 := by have := h.l; omega
/-- the set of fields of the first use of a directive -/
def setM (l : List Dir) (n : Str) : List Str := (setF ((argD n ([102, 105, 101, 108, 100, 115] : Str) l).getD Val.zero).text).1
/- keys -/
def keysD : List Dir → List (List Str)
  | [] => []
  | d :: r => (if d.name = ([107, 101, 121] : Str) then [setM [d] ([107, 101, 121] : Str)] else []) ++ keysD r
/- a field of a key -/
def isKeyM (l : List Dir) (f : Str) : Bool := (keysD l).any fun k => decide (f ∈ k)
end Go.GB.C23


/-
  F25B: moves: leaf types, fields that graphs resolve, fields that are external.
-/
namespace Go.GB.C23
open Go.GB Go.GB.C11
set_option linter.unusedSimpArgs false
set_option linter.unusedVariables false
set_option maxRecDepth 100000
set_option maxHeartbeats 4000000
variable {P : Program}

structure Graph where
  name : Str
  doc : List Def
def Graph.enc (g : Graph) : List T := [.str g.name, .lst (g.doc.map Def.enc)]
def Graph.v (g : Graph) : V := .agg [.t (.str g.name), .t (.lst (g.doc.map Def.enc))]

structure FK (x : Field) : Prop where
  d : DK x.dirs
  al : x.args.length ≤ 140737488355328
  w : x.ty.wraps.length ≤ 140737488355328
  nm : x.name.length ≤ 140737488355328
structure TK (t : Def) : Prop where
  d : DK t.dirs
  fl : t.fields.length ≤ 1048576
  f : ∀ x, x ∈ t.fields → FK x
  nm : t.name.length ≤ 140737488355328
structure GK (ds : List Def) : Prop where
  ok : DocOk ds
  l : ds.length ≤ 1048576
  t : ∀ t, t ∈ ds → TK t
theorem DK.nil : DK [] := ⟨by decide, by simp⟩
theorem FK.zero : FK Field.zero := ⟨DK.nil, by decide, by decide, by decide⟩
theorem TK.zero : TK Def.zero := ⟨DK.nil, by decide, by simp [Def.zero], by decide⟩
theorem GK.find {ds : List Def} (h : GK ds) (n : Str) : TK ((findDef n ds).getD Def.zero) := by
  cases hf : findDef n ds with
  | none => exact TK.zero
  | some t => exact h.t t (findDef_mem hf)
theorem TK.field {t : Def} (h : TK t) (n : Str) : FK ((findField n t.fields).getD Field.zero) := by
  cases hf : findField n t.fields with
  | none => exact FK.zero
  | some t => exact h.f t (findField_mem hf)
theorem GK.len {ds : List Def} (h : GK ds) : ds.length ≤ 140737488355328 := h.ok.l

def kindM (ds : List Def) (n : Str) : Int := ((findDef n ds).getD Def.zero).kind
def leafM (ds : List Def) (n : Str) : Bool := scalF n || kindM ds n == 4
def resM (ds : List Def) (n f : Str) : Bool :=
  (((findDef n ds).isSome && (findField f ((findDef n ds).getD Def.zero).fields).isSome) && ((findDef n ds).getD Def.zero).kind == 1) && !hasD ([101, 120, 116, 101, 114, 110, 97, 108] : Str) ((findField f ((findDef n ds).getD Def.zero).fields).getD Field.zero).dirs
def othM (a : Nat) (n f : Str) : Nat → List Graph → Bool
  | _, [] => false
  | i, g :: r => (((i : Int) != (a : Int)) && resM g.doc n f) || othM a n f (i + 1) r
/-- a name that is not an external field without arguments, of a leaf type -/
def outB (ds : List Def) (t : Def) (n : Str) : Bool :=
  ((!(findField n t.fields).isSome || !hasD ([101, 120, 116, 101, 114, 110, 97, 108] : Str) ((findField n t.fields).getD Field.zero).dirs) || decide ((((findField n t.fields).getD Field.zero).args.length : Int) > 0)) || !leafM ds ((findField n t.fields).getD Field.zero).ty.name
def outM (ds : List Def) (t : Def) (l : List Str) : Bool := !l.any (outB ds t) && decide ((l.length : Int) > 0)
end Go.GB.C23


/-
  F25C: moves: fields that are mentioned in a graph, and fields that graphs lean on.
-/
namespace Go.GB.C23
open Go.GB Go.GB.C11
set_option linter.unusedSimpArgs false
set_option linter.unusedVariables false
set_option maxRecDepth 100000
set_option maxHeartbeats 4000000
variable {P : Program}

/-- a field that another one requires -/
def reqM (f : Str) (l : List Field) : Bool := l.any fun x => decide (f ∈ setM x.dirs ([114, 101, 113, 117, 105, 114, 101, 115] : Str))
/-- does a graph lean on a field? -/
def leaG (n f : Str) (g : Graph) : Bool := !(((findDef n g.doc).getD Def.zero).kind != 1) && (isKeyM ((findDef n g.doc).getD Def.zero).dirs f || reqM f ((findDef n g.doc).getD Def.zero).fields)
/-- a field of a type that another field of that type provides -/
def prvM (f : Str) (n : Str) (k : Int) (y : Field) : Bool := (k == 1 && y.ty.name == n) && decide (f ∈ setM y.dirs ([112, 114, 111, 118, 105, 100, 101, 115] : Str))
def menM (ds : List Def) (t : Def) (f : Str) : Bool := isKeyM t.dirs f || (reqM f t.fields || ds.any fun x => x.fields.any (prvM f t.name x.kind))
end Go.GB.C23


/-
  F25D: moves: violations of keys.
-/
namespace Go.GB.C23
open Go.GB Go.GB.C11
set_option linter.unusedSimpArgs false
set_option linter.unusedVariables false
set_option maxRecDepth 100000
set_option maxHeartbeats 4000000
variable {P : Program}

def ifM (c : Bool) (x : Fault) : List Fault := if c then [x] else []
/- keys -/
def rootB (n : Str) : Bool := (n == [81, 117, 101, 114, 121] || n == [77, 117, 116, 97, 116, 105, 111, 110]) || n == [83, 117, 98, 115, 99, 114, 105, 112, 116, 105, 111, 110]
/-- a type that is not null, of a leaf type -/
def plainM (ds : List Def) (x : Field) : Bool := (match x.ty.wraps with | [w] => w == 1 | _ => false) && leafM ds x.ty.name
def keyN (ds : List Def) (t : Def) (b : Bool) (n : Str) : Bool :=
  ((b || !(findField n t.fields).isSome) || decide ((((findField n t.fields).getD Field.zero).args.length : Int) > 0)) || !plainM ds ((findField n t.fields).getD Field.zero)
def keyB (ds : List Def) (t : Def) (i : Nat) (k : List Str) : Bool := k.foldl (keyN ds t) ((decide ((i : Int) ≥ 4) || rootB t.name) || ((k.length : Int) == 0))
def keyL (g : Graph) (t : Def) : Nat → List (List Str) → List Fault
  | _, [] => []
  | i, k :: r => ifM (keyB g.doc t i k) ⟨41, g.name ++ [58] ++ t.name⟩ ++ keyL g t (i + 1) r
end Go.GB.C23


/-
  F25E: moves: violations of fields.
-/
namespace Go.GB.C23
open Go.GB Go.GB.C11
set_option linter.unusedSimpArgs false
set_option linter.unusedVariables false
set_option maxRecDepth 100000
set_option maxHeartbeats 4000000
variable {P : Program}

def placeM (g : Graph) (t : Def) (x : Field) : Str := g.name ++ [58] ++ (t.name ++ [46] ++ x.name)
def c1M (gs : List Graph) (a : Nat) (g : Graph) (t : Def) (x : Field) : Bool := hasD ([101, 120, 116, 101, 114, 110, 97, 108] : Str) x.dirs && (!menM g.doc t x.name || !othM a t.name x.name 0 gs)
def c2M (gs : List Graph) (g : Graph) (t : Def) (x : Field) : Bool := hasD ([114, 101, 113, 117, 105, 114, 101, 115] : Str) x.dirs && (((hasD ([101, 120, 116, 101, 114, 110, 97, 108] : Str) x.dirs || gs.any (leaG t.name x.name)) || (((keysD t.dirs).length : Int) == 0)) || !outM g.doc t (setM x.dirs ([114, 101, 113, 117, 105, 114, 101, 115] : Str)))
def c3M (g : Graph) (x : Field) : Bool := (!(findDef x.ty.name g.doc).isSome || ((findDef x.ty.name g.doc).getD Def.zero).kind != 1) || !outM g.doc ((findDef x.ty.name g.doc).getD Def.zero) (setM x.dirs ([112, 114, 111, 118, 105, 100, 101, 115] : Str))
def c4M (gs : List Graph) (a : Nat) (t : Def) (x : Field) : Bool := (!hasD ([101, 120, 116, 101, 114, 110, 97, 108] : Str) x.dirs && othM a t.name x.name 0 gs) && (hasD ([114, 101, 113, 117, 105, 114, 101, 115] : Str) x.dirs || !(hasD ([115, 104, 97, 114, 101, 97, 98, 108, 101] : Str) x.dirs || isKeyM t.dirs x.name))
def fieldF (gs : List Graph) (a : Nat) (g : Graph) (t : Def) (x : Field) : List Fault :=
  ifM (c1M gs a g t x) ⟨42, placeM g t x⟩ ++ (ifM (c2M gs g t x) ⟨43, placeM g t x⟩ ++ ((if hasD ([112, 114, 111, 118, 105, 100, 101, 115] : Str) x.dirs = true then ifM (c3M g x) ⟨44, placeM g t x⟩ else []) ++ ifM (c4M gs a t x) ⟨40, placeM g t x⟩))
end Go.GB.C23


/-
  F25F: moves: keys and joins of graphs.
-/
namespace Go.GB.C23
open Go.GB Go.GB.C11
set_option linter.unusedSimpArgs false
set_option linter.unusedVariables false
set_option maxRecDepth 100000
set_option maxHeartbeats 4000000
variable {P : Program}

structure KeyO where
  ty : Str
  graph : Int
  fields : List Str
def KeyO.enc (k : KeyO) : List T := [.str k.ty, .int .i64 k.graph, .lst (k.fields.map sE)]
structure Jn where
  ty : Str
  field : Str
  graph : Int
  ext : Bool
  req : List Str
  prov : List Str
def Jn.enc (j : Jn) : List T := [.str j.ty, .str j.field, .int .i64 j.graph, .bool j.ext, .lst (j.req.map sE), .lst (j.prov.map sE)]
structure Acc where
  k : List KeyO
  j : List Jn
  b : List Fault

def keyOf (i : Nat) (t : Def) (k : List Str) : KeyO := ⟨t.name, i, k⟩
def jnOf (i : Nat) (t : Def) (x : Field) : Jn := ⟨t.name, x.name, i, hasD ([101, 120, 116, 101, 114, 110, 97, 108] : Str) x.dirs, setM x.dirs ([114, 101, 113, 117, 105, 114, 101, 115] : Str), setM x.dirs ([112, 114, 111, 118, 105, 100, 101, 115] : Str)⟩
def kDef (i : Nat) (t : Def) : List KeyO := if t.kind = 1 then (keysD t.dirs).map (keyOf i t) else []
def jDef (i : Nat) (t : Def) : List Jn := if t.kind = 1 then t.fields.map (jnOf i t) else []
def fL (gs : List Graph) (i : Nat) (g : Graph) (t : Def) : List Field → List Fault
  | [] => []
  | x :: r => fieldF gs i g t x ++ fL gs i g t r
def bDef (gs : List Graph) (i : Nat) (g : Graph) (t : Def) : List Fault := if t.kind = 1 then keyL g t 0 (keysD t.dirs) ++ fL gs i g t t.fields else []
def kDefs (i : Nat) : List Def → List KeyO
  | [] => []
  | t :: r => kDef i t ++ kDefs i r
def jDefs (i : Nat) : List Def → List Jn
  | [] => []
  | t :: r => jDef i t ++ jDefs i r
def bDefs (gs : List Graph) (i : Nat) (g : Graph) : List Def → List Fault
  | [] => []
  | t :: r => bDef gs i g t ++ bDefs gs i g r
def kAll : Nat → List Graph → List KeyO
  | _, [] => []
  | i, g :: r => kDefs i g.doc ++ kAll (i + 1) r
def jAll : Nat → List Graph → List Jn
  | _, [] => []
  | i, g :: r => jDefs i g.doc ++ jAll (i + 1) r
def bAll (gs : List Graph) : Nat → List Graph → List Fault
  | _, [] => []
  | i, g :: r => bDefs gs i g g.doc ++ bAll gs (i + 1) r
structure JoinsB (gs : List Graph) : Prop where
  l : gs.length ≤ 140737488355328
  g : ∀ g, g ∈ gs → GK g.doc
  n : ∀ g, g ∈ gs → g.name.length ≤ 140737488355328
  k : (kAll 0 gs).length ≤ 549755813888
  j : (jAll 0 gs).length ≤ 549755813888
  b : (bAll gs 0 gs).length ≤ 549755813888

end Go.GB.C23


/-
  F25J: shapes of graphs and supergraphs, as laws are handed them.
-/
namespace Go.GB.C23
open Go.GB Go.GB.C11
set_option linter.unusedSimpArgs false
set_option linter.unusedVariables false

end Go.GB.C23

