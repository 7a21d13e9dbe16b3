/-
  YtilonlfmalfofaaP5: lemmas of this proof (part 5). No conditions.
-/
import Derived.Test.YtilonlfmalfofaaP4
import Derived.Test.YtilonlfmalfofaaP3
import Derived.KernelRfl

/-
  GbApi: the plain types of package api as data, and how they lie in cells.
-/
namespace Go.GB
abbrev Str := List UInt8
def sE (s : Str) : List T := [.str s]
def iE (n : Int) : T := .int .i64 n
def nE (n : Int) : List T := [.int .i64 n]
theorem sE_ok : KeyEnc [.str] sE := ⟨fun _ => rfl, fun x y h => by simpa [sE, keyEq, T.eqb] using h, fun x => by simp [sE, keyEq, T.eqb]⟩

inductive Val where
  | mk (kind int : Int) (text : Str) (items : List Val) (keys : List Str)
namespace Val
def kind : Val → Int | .mk k _ _ _ _ => k
def int : Val → Int | .mk _ k _ _ _ => k
def text : Val → Str | .mk _ _ k _ _ => k
def items : Val → List Val | .mk _ _ _ k _ => k
def keys : Val → List Str | .mk _ _ _ _ k => k
mutual
def enc : Val → List T
  | .mk k i t its ks => [.int .i64 k, .int .i64 i, .str t, .lst (encs its), .lst (ks.map sE)]
def encs : List Val → List (List T)
  | [] => []
  | v :: r => v.enc :: encs r
end
theorem encs_map : ∀ l : List Val, encs l = l.map enc
  | [] => by simp [encs]
  | v :: r => by simp [encs, encs_map r]
/-- the cells of a value -/
def cs (v : Val) : List T := [.int .i64 v.kind, .int .i64 v.int, .str v.text, .lst (v.items.map enc), .lst (v.keys.map sE)]
theorem enc_eq (v : Val) : v.enc = v.cs := by
  cases v; simp [enc, cs, kind, int, text, items, keys, encs_map]
def v (x : Val) : V := .agg [.t (.int .i64 x.kind), .t (.int .i64 x.int), .t (.str x.text), .t (.lst (x.items.map enc)), .t (.lst (x.keys.map sE))]
theorem eta : ∀ v : Val, Val.mk v.kind v.int v.text v.items v.keys = v
  | .mk .. => rfl
theorem size_items : ∀ (v : Val) {x : Val}, x ∈ v.items → SizeOf.sizeOf x < SizeOf.sizeOf v
  | .mk k i t its ks, x, h => by
    have := List.sizeOf_lt_of_mem h
    simp only [items] at this
    simp only [Val.mk.sizeOf_spec]; omega
end Val
structure Ref where
  name : Str
  wraps : List Int
structure Arg where
  name : Str
  val : Val
def Arg.enc (a : Arg) : List T := [.str a.name, .int .i64 a.val.kind, .int .i64 a.val.int, .str a.val.text, .lst (a.val.items.map Val.enc), .lst (a.val.keys.map sE)]
structure Dir where
  name : Str
  args : List Arg
def Dir.enc (d : Dir) : List T := [.str d.name, .lst (d.args.map Arg.enc)]
structure Input where
  name : Str
  ty : Ref
  has : Bool
  dflt : Val
  dirs : List Dir
def Input.enc (x : Input) : List T := [.str x.name, .str x.ty.name, .lst (x.ty.wraps.map nE), .bool x.has, .int .i64 x.dflt.kind, .int .i64 x.dflt.int, .str x.dflt.text, .lst (x.dflt.items.map Val.enc), .lst (x.dflt.keys.map sE), .lst (x.dirs.map Dir.enc)]
structure Field where
  name : Str
  args : List Input
  ty : Ref
  dirs : List Dir
def Field.enc (f : Field) : List T := [.str f.name, .lst (f.args.map Input.enc), .str f.ty.name, .lst (f.ty.wraps.map nE), .lst (f.dirs.map Dir.enc)]
structure Member where
  name : Str
  dirs : List Dir
def Member.enc (m : Member) : List T := [.str m.name, .lst (m.dirs.map Dir.enc)]
structure Def where
  kind : Int
  name : Str
  implements : List Str
  dirs : List Dir
  fields : List Field
  members : List Member
  inputs : List Input
def Def.enc (d : Def) : List T := [.int .i64 d.kind, .str d.name, .lst (d.implements.map sE), .lst (d.dirs.map Dir.enc), .lst (d.fields.map Field.enc), .lst (d.members.map Member.enc), .lst (d.inputs.map Input.enc)]
structure Hop where
  on : Str
  key : Str
def Hop.enc (h : Hop) : List T := [.str h.on, .str h.key]
structure User where
  known : Bool
  scopes : List Str
inductive Pick where
  | mk (key on name : Str) (args : List Arg) (ty : Ref) (label : Str) (initial : Int) (picks : List Pick)
namespace Pick
def key : Pick → Str | .mk k _ _ _ _ _ _ _ => k
def on : Pick → Str | .mk _ k _ _ _ _ _ _ => k
def name : Pick → Str | .mk _ _ k _ _ _ _ _ => k
def args : Pick → List Arg | .mk _ _ _ k _ _ _ _ => k
def ty : Pick → Ref | .mk _ _ _ _ k _ _ _ => k
def label : Pick → Str | .mk _ _ _ _ _ k _ _ => k
def initial : Pick → Int | .mk _ _ _ _ _ _ k _ => k
def picks : Pick → List Pick | .mk _ _ _ _ _ _ _ k => k
mutual
def enc : Pick → List T
  | .mk k o n a t l i ps => [.str k, .str o, .str n, .lst (a.map Arg.enc), .str t.name, .lst (t.wraps.map nE), .str l, .int .i64 i, .lst (encs ps)]
def encs : List Pick → List (List T)
  | [] => []
  | v :: r => v.enc :: encs r
end
theorem encs_map : ∀ l : List Pick, encs l = l.map enc
  | [] => by simp [encs]
  | v :: r => by simp [encs, encs_map r]
def cs (v : Pick) : List T := [.str v.key, .str v.on, .str v.name, .lst (v.args.map Arg.enc), .str v.ty.name, .lst (v.ty.wraps.map nE), .str v.label, .int .i64 v.initial, .lst (v.picks.map enc)]
theorem enc_eq (v : Pick) : v.enc = v.cs := by
  cases v; simp [enc, cs, key, on, name, args, ty, label, initial, picks, encs_map]
theorem eta : ∀ v : Pick, Pick.mk v.key v.on v.name v.args v.ty v.label v.initial v.picks = v
  | .mk .. => rfl
theorem size_picks : ∀ (v : Pick) {x : Pick}, x ∈ v.picks → SizeOf.sizeOf x < SizeOf.sizeOf v
  | .mk k o n a t l i ps, x, h => by
    have := List.sizeOf_lt_of_mem h
    simp only [picks] at this
    simp only [Pick.mk.sizeOf_spec]; omega
end Pick

/- sizes: no list takes more than 2 ^ 47 bytes -/
def B47 : Nat := 140737488355328
inductive Val.Ok : Val → Prop where
  | mk {k i : Int} {t : Str} {its : List Val} {ks : List Str} (h1 : its.length * 80 ≤ B47) (h2 : ks.length * 16 ≤ B47) (h3 : ∀ x, x ∈ its → Val.Ok x) (h4 : t.length ≤ 9223372036854775807) (h5 : ∀ x, x ∈ ks → x.length ≤ 9223372036854775807) : Val.Ok (.mk k i t its ks)
namespace Val.Ok
theorem il {v : Val} (h : v.Ok) : v.items.length * 80 ≤ 140737488355328 := by cases h with | mk h1 h2 h3 => exact h1
theorem kl {v : Val} (h : v.Ok) : v.keys.length * 16 ≤ 140737488355328 := by cases h with | mk h1 h2 h3 => exact h2
theorem it {v : Val} (h : v.Ok) : ∀ x, x ∈ v.items → x.Ok := by cases h with | mk h1 h2 h3 => exact h3
theorem tl {v : Val} (h : v.Ok) : v.text.length ≤ 9223372036854775807 := by cases h with | mk h1 h2 h3 h4 => exact h4
theorem kt {v : Val} (h : v.Ok) : ∀ x, x ∈ v.keys → x.length ≤ 9223372036854775807 := by cases h with | mk h1 h2 h3 h4 h5 => exact h5
end Val.Ok
def Val.zero : Val := .mk 0 0 [] [] []
theorem Val.zero_ok : Val.zero.Ok := .mk (by decide) (by decide) (by simp) (by decide) (by simp)
def Arg.Ok (a : Arg) : Prop := a.val.Ok
structure Dir.Ok (d : Dir) : Prop where
  l : d.args.length ≤ 140737488355328
  a : ∀ x, x ∈ d.args → x.Ok
structure Ref.Ok (r : Ref) : Prop where
  l : r.wraps.length * 8 ≤ 140737488355328
structure Input.Ok (x : Input) : Prop where
  t : x.ty.Ok
  v : x.dflt.Ok
  l : x.dirs.length ≤ 140737488355328
  d : ∀ y, y ∈ x.dirs → y.Ok
structure Field.Ok (x : Field) : Prop where
  al : x.args.length ≤ 140737488355328
  a : ∀ y, y ∈ x.args → y.Ok
  t : x.ty.Ok
  l : x.dirs.length ≤ 140737488355328
  d : ∀ y, y ∈ x.dirs → y.Ok
structure Member.Ok (x : Member) : Prop where
  l : x.dirs.length ≤ 140737488355328
  d : ∀ y, y ∈ x.dirs → y.Ok
structure Def.Ok (x : Def) : Prop where
  il : x.implements.length ≤ 140737488355328
  dl : x.dirs.length ≤ 140737488355328
  d : ∀ y, y ∈ x.dirs → y.Ok
  fl : x.fields.length ≤ 140737488355328
  f : ∀ y, y ∈ x.fields → y.Ok
  ml : x.members.length ≤ 140737488355328
  m : ∀ y, y ∈ x.members → y.Ok
  nl : x.inputs.length ≤ 140737488355328
  n : ∀ y, y ∈ x.inputs → y.Ok
structure DocOk (ds : List Def) : Prop where
  l : ds.length ≤ 140737488355328
  d : ∀ y, y ∈ ds → y.Ok
inductive Pick.Ok : Pick → Prop where
  | mk {k o n : Str} {a : List Arg} {t : Ref} {l : Str} {i : Int} {ps : List Pick} (h1 : a.length * 96 ≤ B47) (h2 : ∀ x, x ∈ a → x.Ok) (h3 : t.Ok) (h4 : ps.length * 160 ≤ B47) (h5 : ∀ x, x ∈ ps → Pick.Ok x) : Pick.Ok (.mk k o n a t l i ps)
namespace Pick.Ok
theorem al {v : Pick} (h : v.Ok) : v.args.length * 96 ≤ 140737488355328 := by cases h with | mk h1 => exact h1
theorem aa {v : Pick} (h : v.Ok) : ∀ x, x ∈ v.args → x.Ok := by cases h with | mk h1 h2 => exact h2
theorem t {v : Pick} (h : v.Ok) : v.ty.Ok := by cases h with | mk h1 h2 h3 => exact h3
theorem pl {v : Pick} (h : v.Ok) : v.picks.length * 160 ≤ 140737488355328 := by cases h with | mk h1 h2 h3 h4 => exact h4
theorem p {v : Pick} (h : v.Ok) : ∀ x, x ∈ v.picks → x.Ok := by cases h with | mk h1 h2 h3 h4 h5 => exact h5
end Pick.Ok
def Def.v (d : Def) : V := .agg [.t (.int .i64 d.kind), .t (.str d.name), .t (.lst (d.implements.map sE)), .t (.lst (d.dirs.map Dir.enc)), .t (.lst (d.fields.map Field.enc)), .t (.lst (d.members.map Member.enc)), .t (.lst (d.inputs.map Input.enc))]
def Def.zero : Def := ⟨0, [], [], [], [], [], []⟩
theorem Def.zero_ok : Def.zero.Ok := ⟨by decide, by decide, by simp [Def.zero], by decide, by simp [Def.zero], by decide, by simp [Def.zero], by decide, by simp [Def.zero]⟩
def Field.v (f : Field) : V := .agg [.t (.str f.name), .t (.lst (f.args.map Input.enc)), .t (.str f.ty.name), .t (.lst (f.ty.wraps.map nE)), .t (.lst (f.dirs.map Dir.enc))]
def Field.zero : Field := ⟨[], [], ⟨[], []⟩, []⟩
theorem Field.zero_ok : Field.zero.Ok := ⟨by decide, by simp [Field.zero], ⟨by decide⟩, by decide, by simp [Field.zero]⟩
def Dir.v (d : Dir) : V := .agg [.t (.str d.name), .t (.lst (d.args.map Arg.enc))]
def User.v (u : User) : V := .agg [.t (.bool u.known), .t (.lst (u.scopes.map sE))]
def docV (l : List Def) : V := .agg [.t (.lst (l.map Def.enc))]
def Ref.v (r : Ref) : V := .agg [.t (.str r.name), .t (.lst (r.wraps.map nE))]
def Pick.v (v : Pick) : V := .agg [.t (.str v.key), .t (.str v.on), .t (.str v.name), .t (.lst (v.args.map Arg.enc)), .t (.str v.ty.name), .t (.lst (v.ty.wraps.map nE)), .t (.str v.label), .t (.int .i64 v.initial), .t (.lst (v.picks.map Pick.enc))]
def Arg.v (a : Arg) : V := .agg [.t (.str a.name), .t (.int .i64 a.val.kind), .t (.int .i64 a.val.int), .t (.str a.val.text), .t (.lst (a.val.items.map Val.enc)), .t (.lst (a.val.keys.map sE))]

namespace Pick
mutual
/-- how many picks -/
def cnt : Pick → Nat
  | .mk _ _ _ _ _ _ _ ps => 1 + cnts ps
def cnts : List Pick → Nat
  | [] => 0
  | p :: r => cnt p + cnts r
end
theorem cnt_eq (p : Pick) : p.cnt = 1 + cnts p.picks := by cases p; simp [cnt, picks]
theorem cnts_append : ∀ a b : List Pick, cnts (a ++ b) = cnts a + cnts b
  | [], b => by simp [cnts]
  | p :: a, b => by simp only [List.cons_append, cnts, cnts_append a b]; omega
theorem cnts_len : ∀ l : List Pick, l.length ≤ cnts l
  | [] => by simp
  | p :: r => by
    have := cnts_len r
    have := cnt_eq p
    simp only [List.length_cons, cnts]; omega
def withPicks (p : Pick) (ps : List Pick) : Pick := .mk p.key p.on p.name p.args p.ty p.label p.initial ps
mutual
/-- the permitted picks below a path, and the paths of the others -/
def filt (m : Str → Str → Bool) : Pick → List Hop → Option Pick × List (List Hop)
  | .mk k o n a t l i ps, path => if m o n = true then (some (.mk k o n a t l i (filts m ps (path ++ [⟨o, k⟩])).1), (filts m ps (path ++ [⟨o, k⟩])).2) else (none, [path ++ [⟨o, k⟩]])
def filts (m : Str → Str → Bool) : List Pick → List Hop → List Pick × List (List Hop)
  | [], _ => ([], [])
  | p :: r, path => ((filt m p path).1.toList ++ (filts m r path).1, (filt m p path).2 ++ (filts m r path).2)
end
theorem filt_eq (m : Str → Str → Bool) (p : Pick) (path : List Hop) : filt m p path = if m p.on p.name = true then (some (p.withPicks (filts m p.picks (path ++ [⟨p.on, p.key⟩])).1), (filts m p.picks (path ++ [⟨p.on, p.key⟩])).2) else (none, [path ++ [⟨p.on, p.key⟩]]) := by
  cases p; simp only [filt, on, name, picks, key, withPicks, args, ty, label, initial]; rfl
theorem filts_gone (m : Str → Str → Bool) : ∀ (k : Nat), (∀ (p : Pick) (path : List Hop), SizeOf.sizeOf p ≤ k → (filt m p path).2.length ≤ p.cnt) ∧ ∀ (l : List Pick) (path : List Hop), SizeOf.sizeOf l ≤ k → (filts m l path).2.length ≤ cnts l
  | 0 => ⟨fun p path h => by cases p; simp at h, fun l path h => by cases l <;> simp at h⟩
  | k + 1 => by
    obtain ⟨h1, h2⟩ := filts_gone m k
    refine ⟨fun p path h => ?_, fun l path h => ?_⟩
    · cases p with
      | mk kk o n a t l i ps =>
        simp only [filt, cnt]
        split
        · have := h2 ps (path ++ [⟨o, kk⟩]) (by simp at h; omega)
          simp only; omega
        · simp
    · cases l with
      | nil => simp [filts]
      | cons p r =>
        have a := h1 p path (by simp at h; omega)
        have b := h2 r path (by simp at h; omega)
        simp only [filts, cnts, List.length_append]; omega
end Pick
def pE (l : List Hop) : List T := [.lst (l.map Hop.enc)]

section
variable {P : Program} {n m : Nat} {R : St → Prop} {draw : Bool} {all : List AO} {after : List (List Nat)} {live : List Nat} {k : List It} {b b' : Nat} {fl : List (Bool × Bool)} {ops : List AO} {st st' : St} {d : Option Nat}
/-- an element of a list of things that hold things of their own kind -/
theorem Mid.elemMapC {α : Type} {f : α → List T} {l : List α} {e : α} {c : List T} {sz j : Nat} {x i : Ar} {v : V} {kd : IntKind} (hf : f e = c) (hx : rd true st x = (v, [])) (hv : v.cell1 = some (.lst (l.map f))) (hi : rd true st i = (.t (.int kd j), [])) (hc : l[j]? = some e) (hl : (Nat.beq c.length sz && !(Nat.beq sz 0)) = true)
    (hs : stepV st d (.t (.ptr c)) some = some st') (h' : Mid P n m R draw all after live k b ((false, false) :: fl) ops st') : Mid P n m R draw all after live k b fl (⟨d, none, .ia sz x i⟩ :: ops) st := by
  subst hf; exact Mid.elemMap hx hv hi hc hl hs h'
theorem Mid.elemMapCG {α : Type} {f : α → List T} {l : List α} {e : α} {c : List T} {sz j : Nat} {s : Nat} {want gc : Bool} {x i : Ar} {v : V} {kd : IntKind} {p1 p2 : List Bool} (hf : f e = c) (hg : gcondF want (look st.env s) = some gc) (hx : rd gc st x = (v, p1)) (hv : v.cell1 = some (.lst (l.map f))) (hi : rd gc st i = (.t (.int kd j), p2)) (hc : l[j]? = some e) (hl : (Nat.beq c.length sz && !(Nat.beq sz 0)) = true)
    (hp1 : pall (p1.map fun p => !gc || p)) (hp2 : pall (p2.map fun p => !gc || p)) (hs : stepV st d (.gd gc (.t (.ptr c))) some = some st') (h' : Mid P n m R draw all after live k b ((false, false) :: fl) ops st') : Mid P n m R draw all after live k b fl (⟨d, some (s, want), .ia sz x i⟩ :: ops) st := by
  subst hf; exact Mid.elemMapG hg hx hv hi hc hl hp1 hp2 hs h'
end
end Go.GB

/-
  A43A: contracts of chapters 43's functions: finding definitions, fields and directives; permissions.
-/
namespace Go.GB.C43
open Go.GB
set_option linter.unusedSimpArgs false
set_option linter.unusedVariables false
set_option maxRecDepth 100000
structure Pr (P : Program) : Prop where
  mixed : P.follows .mixedOrders = true
  i3 : fnInfo P 3 = some (n3, c3.bare, r3)
  i4 : fnInfo P 4 = some (n4, c4.bare, r4)
  i5 : fnInfo P 5 = some (n5, c5.bare, r5)
  i6 : fnInfo P 6 = some (n6, c6.bare, r6)
  i7 : fnInfo P 7 = some (n7, c7.bare, r7)
  i13 : fnInfo P 13 = some (n13, c13.bare, r13)
  i14 : fnInfo P 14 = some (n14, c14.bare, r14)
  i15 : fnInfo P 15 = some (n15, c15.bare, r15)
  i16 : fnInfo P 16 = some (n16, c16.bare, r16)
  i17 : fnInfo P 17 = some (n17, c17.bare, r17)
  i18 : fnInfo P 18 = some (n18, c18.bare, r18)
  i19 : fnInfo P 19 = some (n19, c19.bare, r19)
  i20 : fnInfo P 20 = some (n20, c20.bare, r20)
  i21 : fnInfo P 21 = some (n21, c21.bare, r21)
  i22 : fnInfo P 22 = some (n22, c22.bare, r22)
  i23 : fnInfo P 23 = some (n23, c23.bare, r23)
  i24 : fnInfo P 24 = some (n24, c24.bare, r24)
  i25 : fnInfo P 25 = some (n25, c25.bare, r25)
  i26 : fnInfo P 26 = some (n26, c26.bare, r26)
  i27 : fnInfo P 27 = some (n27, c27.bare, r27)
  i28 : fnInfo P 28 = some (n28, c28.bare, r28)
  i29 : fnInfo P 29 = some (n29, c29.bare, r29)
  i30 : fnInfo P 30 = some (n30, c30.bare, r30)
  i31 : fnInfo P 31 = some (n31, c31.bare, r31)
  i46 : fnInfo P 46 = some (n46, c46.bare, r46)
  i47 : fnInfo P 47 = some (n47, c47.bare, r47)
  i48 : fnInfo P 48 = some (n48, c48.bare, r48)
  i49 : fnInfo P 49 = some (n49, c49.bare, r49)
  i50 : fnInfo P 50 = some (n50, c50.bare, r50)
  i51 : fnInfo P 51 = some (n51, c51.bare, r51)
  i52 : fnInfo P 52 = some (n52, c52.bare, r52)
  i53 : fnInfo P 53 = some (n53, c53.bare, r53)
  i54 : fnInfo P 54 = some (n54, c54.bare, r54)
  i55 : fnInfo P 55 = some (n55, c55.bare, r55)
  i56 : fnInfo P 56 = some (n56, c56.bare, r56)
  i57 : fnInfo P 57 = some (n57, c57.bare, r57)
  i58 : fnInfo P 58 = some (n58, c58.bare, r58)
  i59 : fnInfo P 59 = some (n59, c59.bare, r59)
  i60 : fnInfo P 60 = some (n60, c60.bare, r60)
  i61 : fnInfo P 61 = some (n61, c61.bare, r61)
  i84 : fnInfo P 84 = some (n84, c84.bare, r84)
  i86 : fnInfo P 86 = some (n86, c86.bare, r86)
  i88 : fnInfo P 88 = some (n88, c88.bare, r88)
  i89 : fnInfo P 89 = some (n89, c89.bare, r89)
  i90 : fnInfo P 90 = some (n90, c90.bare, r90)
  i91 : fnInfo P 91 = some (n91, c91.bare, r91)
  i92 : fnInfo P 92 = some (n92, c92.bare, r92)
  i93 : fnInfo P 93 = some (n93, c93.bare, r93)
  i94 : fnInfo P 94 = some (n94, c94.bare, r94)
  i95 : fnInfo P 95 = some (n95, c95.bare, r95)
  i96 : fnInfo P 96 = some (n96, c96.bare, r96)
  i97 : fnInfo P 97 = some (n97, c97.bare, r97)
  i98 : fnInfo P 98 = some (n98, c98.bare, r98)
  i99 : fnInfo P 99 = some (n99, c99.bare, r99)
  i100 : fnInfo P 100 = some (n100, c100.bare, r100)
  i101 : fnInfo P 101 = some (n101, c101.bare, r101)
  i102 : fnInfo P 102 = some (n102, c102.bare, r102)
  i103 : fnInfo P 103 = some (n103, c103.bare, r103)
  i104 : fnInfo P 104 = some (n104, c104.bare, r104)
  i105 : fnInfo P 105 = some (n105, c105.bare, r105)
  i114 : fnInfo P 114 = some (n114, c114.bare, r114)
  i116 : fnInfo P 116 = some (n116, c116.bare, r116)
  i117 : fnInfo P 117 = some (n117, c117.bare, r117)
  i118 : fnInfo P 118 = some (n118, c118.bare, r118)
  i119 : fnInfo P 119 = some (n119, c119.bare, r119)
  i120 : fnInfo P 120 = some (n120, c120.bare, r120)
  i121 : fnInfo P 121 = some (n121, c121.bare, r121)
  i122 : fnInfo P 122 = some (n122, c122.bare, r122)
  i123 : fnInfo P 123 = some (n123, c123.bare, r123)
  i124 : fnInfo P 124 = some (n124, c124.bare, r124)
  i125 : fnInfo P 125 = some (n125, c125.bare, r125)
  i126 : fnInfo P 126 = some (n126, c126.bare, r126)
  i127 : fnInfo P 127 = some (n127, c127.bare, r127)
  i128 : fnInfo P 128 = some (n128, c128.bare, r128)
  i132 : fnInfo P 132 = some (n132, c132.bare, r132)
  i133 : fnInfo P 133 = some (n133, c133.bare, r133)
variable {P : Program}

def findDef (n : Str) : List Def → Option Def
  | [] => none
  | d :: r => if (d.name == n) = true then some d else findDef n r
theorem findDef_mem {n : Str} : ∀ {l : List Def} {d : Def}, findDef n l = some d → d ∈ l
  | [], d, h => by simp [findDef] at h
  | x :: r, d, h => by
    simp only [findDef] at h
    split at h
    · cases h; exact List.mem_cons_self ..
    · exact List.mem_cons_of_mem _ (findDef_mem h)
def findField (n : Str) : List Field → Option Field
  | [] => none
  | d :: r => if (d.name == n) = true then some d else findField n r
theorem findField_mem {n : Str} : ∀ {l : List Field} {d : Field}, findField n l = some d → d ∈ l
  | [], d, h => by simp [findField] at h
  | x :: r, d, h => by
    simp only [findField] at h
    split at h
    · cases h; exact List.mem_cons_self ..
    · exact List.mem_cons_of_mem _ (findField_mem h)
def hasDir (n : Str) : List Dir → Bool
  | [] => false
  | d :: r => if (d.name == n) = true then true else hasDir n r
def findArg (n : Str) : List Arg → Option Val
  | [] => none
  | d :: r => if (d.name == n) = true then some d.val else findArg n r
theorem findArg_ok {n : Str} : ∀ {l : List Arg} {v : Val}, (∀ a, a ∈ l → a.Ok) → findArg n l = some v → v.Ok
  | [], d, _, h => by simp [findArg] at h
  | x :: r, d, ha, h => by
    simp only [findArg] at h
    split at h
    · cases h; exact ha x (List.mem_cons_self ..)
    · exact findArg_ok (fun a h => ha a (List.mem_cons_of_mem _ h)) h
def dirArg (n a : Str) : List Dir → Option Val
  | [] => none
  | d :: r => if (d.name == n) = true then findArg a d.args else dirArg n a r
theorem dirArg_ok {n a : Str} : ∀ {l : List Dir} {v : Val}, (∀ d, d ∈ l → d.Ok) → dirArg n a l = some v → v.Ok
  | [], d, _, h => by simp [dirArg] at h
  | x :: r, d, ha, h => by
    simp only [dirArg] at h
    split at h
    · exact findArg_ok (ha x (List.mem_cons_self ..)).a h
    · exact dirArg_ok (fun a h => ha a (List.mem_cons_of_mem _ h)) h

theorem find_ok (H : Pr P) (ds : List Def) (hl : ds.length ≤ 140737488355328) (n : Str) : FnOk P 49 [docV ds, .t (.str n)] ⟨[], 0⟩ { v := .tup [((findDef n ds).getD Def.zero).v, .t (.bool (findDef n ds).isSome)] } := by
  refine FnOk.run H.i49 H.mixed rfl rfl ?_
  refine fR rfl ?_
  refine lM rfl rfl rfl ?_
  refine fM rfl ?_
  refine rList ds (fun i (_ : Unit) => { env := [(1, .t (.str n)), (4, .ptr 1 0), (9, .t (.lst (ds.map Def.enc))), (10, .t (.int .i64 ds.length)), (11, .t (.int .i64 i))], s := ⟨[(1, .cells [.t (.int .i64 0), .t (.str []), .nils, .nils, .nils, .nils, .nils])], 2⟩ }) (fun r i _ => findDef n ds = findDef n r) 2 () rfl rfl rfl rfl rfl ?_ ?_
  · intro _ hinv
    refine fR rfl ?_
    refine Run.condF rfl rfl (by simp) ?_
    refine fR rfl ?_
    have e : findDef n ds = none := by rw [hinv]; rfl
    rw [e]
    refine Run.fin rfl (EndOk.go ?_); exact .tup2 (.agg (.cons (.t rfl) (.cons (.t rfl) (.cons (.nil rfl) (.cons (.nil rfl) (.cons (.nil rfl) (.cons (.nil rfl) (.cons (.nil rfl) .nil)))))))) (.t rfl)
  · intro i x r _ h1 hi hd hinv ih
    refine fR rfl ?_
    refine Run.condT rfl rfl (by simp; omega) ?_
    refine fR rfl ?_
    refine Mid.elemMap rfl rfl rfl h1 rfl rfl ?_
    refine fM rfl ?_
    refine Run.cond rfl rfl (fun h => ?_) (fun h => ?_)
    · refine fR rfl ?_
      have e : findDef n ds = some x := by rw [hinv]; simp only [findDef]; rw [if_pos h]
      rw [e]
      refine Run.fin rfl (EndOk.go ?_); exact .tup2 (.le (.same rfl)) (.t rfl)
    · refine fR rfl ?_
      refine aL rfl rfl rfl rfl rfl ?_
      refine fM rfl ?_
      have h' : ¬ (x.name == n) = true := by rw [h]; simp
      exact rWeak 2 rfl (ih () (by rw [hinv]; simp only [findDef]; rw [if_neg h'])) rfl rfl rfl

theorem fieldOf_ok (H : Pr P) (d : Def) (hl : d.fields.length ≤ 140737488355328) (n : Str) : FnOk P 50 [d.v, .t (.str n)] ⟨[], 0⟩ { v := .tup [((findField n d.fields).getD Field.zero).v, .t (.bool (findField n d.fields).isSome)] } := by
  refine FnOk.run H.i50 H.mixed rfl rfl ?_
  refine fR rfl ?_
  refine lM rfl rfl rfl ?_
  refine fM rfl ?_
  refine rList d.fields (fun i (_ : Unit) => { env := [(1, .t (.str n)), (4, .ptr 1 0), (9, .t (.lst ((d.fields).map Field.enc))), (10, .t (.int .i64 (d.fields).length)), (11, .t (.int .i64 i))], s := ⟨[(1, .cells [.t (.str []), .nils, .t (.str []), .nils, .nils])], 2⟩ }) (fun r i _ => findField n (d.fields) = findField n r) 2 () rfl rfl rfl rfl rfl ?_ ?_
  · intro _ hinv
    refine fR rfl ?_
    refine Run.condF rfl rfl (by simp) ?_
    refine fR rfl ?_
    have e : findField n (d.fields) = none := by rw [hinv]; rfl
    rw [e]
    refine Run.fin rfl (EndOk.go ?_); exact .tup2 (.agg (.cons (.t rfl) (.cons (.nil rfl) (.cons (.t rfl) (.cons (.nil rfl) (.cons (.nil rfl) .nil)))))) (.t rfl)
  · intro i x r _ h1 hi hd hinv ih
    refine fR rfl ?_
    refine Run.condT rfl rfl (by simp; omega) ?_
    refine fR rfl ?_
    refine Mid.elemMap rfl rfl rfl h1 rfl rfl ?_
    refine fM rfl ?_
    refine Run.cond rfl rfl (fun h => ?_) (fun h => ?_)
    · refine fR rfl ?_
      have e : findField n (d.fields) = some x := by rw [hinv]; simp only [findField]; rw [if_pos h]
      rw [e]
      refine Run.fin rfl (EndOk.go ?_); exact .tup2 (.le (.same rfl)) (.t rfl)
    · refine fR rfl ?_
      refine aL rfl rfl rfl rfl rfl ?_
      refine fM rfl ?_
      have h' : ¬ (x.name == n) = true := by rw [h]; simp
      exact rWeak 2 rfl (ih () (by rw [hinv]; simp only [findField]; rw [if_neg h'])) rfl rfl rfl

theorem argument_ok (H : Pr P) (d : Dir) (hl : d.args.length ≤ 140737488355328) (n : Str) : FnOk P 117 [d.v, .t (.str n)] ⟨[], 0⟩ { v := .tup [((findArg n d.args).getD Val.zero).v, .t (.bool (findArg n d.args).isSome)] } := by
  refine FnOk.run H.i117 H.mixed rfl rfl ?_
  refine fR rfl ?_
  refine lM rfl rfl rfl ?_
  refine fM rfl ?_
  refine rList d.args (fun i (_ : Unit) => { env := [(1, .t (.str n)), (4, .ptr 1 0), (9, .t (.lst ((d.args).map Arg.enc))), (10, .t (.int .i64 (d.args).length)), (11, .t (.int .i64 i))], s := ⟨[(1, .cells [.t (.int .i64 0), .t (.int .i64 0), .t (.str []), .nils, .nils])], 2⟩ }) (fun r i _ => findArg n (d.args) = findArg n r) 2 () rfl rfl rfl rfl rfl ?_ ?_
  · intro _ hinv
    refine fR rfl ?_
    refine Run.condF rfl rfl (by simp) ?_
    refine fR rfl ?_
    have e : findArg n (d.args) = none := by rw [hinv]; rfl
    rw [e]
    refine Run.fin rfl (EndOk.go ?_); exact .tup2 (.agg (.cons (.t rfl) (.cons (.t rfl) (.cons (.t rfl) (.cons (.nil rfl) (.cons (.nil rfl) .nil)))))) (.t rfl)
  · intro i x r _ h1 hi hd hinv ih
    refine fR rfl ?_
    refine Run.condT rfl rfl (by simp; omega) ?_
    refine fR rfl ?_
    refine Mid.elemMap rfl rfl rfl h1 rfl rfl ?_
    refine fM rfl ?_
    refine Run.cond rfl rfl (fun h => ?_) (fun h => ?_)
    · refine fR rfl ?_
      have e : findArg n (d.args) = some x.val := by rw [hinv]; simp only [findArg]; rw [if_pos h]
      rw [e]
      refine Run.fin rfl (EndOk.go ?_); exact .tup2 (.le (.same rfl)) (.t rfl)
    · refine fR rfl ?_
      refine aL rfl rfl rfl rfl rfl ?_
      refine fM rfl ?_
      have h' : ¬ (x.name == n) = true := by rw [h]; simp
      exact rWeak 2 rfl (ih () (by rw [hinv]; simp only [findArg]; rw [if_neg h'])) rfl rfl rfl

theorem rFind_ok (H : Pr P) (ds : List Def) (hl : ds.length ≤ 140737488355328) (n : Str) : FnOk P 52 [docV ds, .t (.str n)] ⟨[], 0⟩ { v := .tup [((findDef n ds).getD Def.zero).v, .t (.bool (findDef n ds).isSome)] } := by
  refine FnOk.run H.i52 H.mixed rfl rfl ?_
  refine fR rfl ?_
  refine rList ds (fun i (_ : Unit) => { env := [(1, .t (.str n)), (2, .ptr 0 0), (4, .ptr 1 0), (6, .t (.int .i64 i))], s := ⟨[(0, .cells [.t (.lst (ds.map Def.enc))]), (1, .cells [.t (.int .i64 0), .t (.str []), .nils, .nils, .nils, .nils, .nils])], 2⟩ }) (fun r i _ => findDef n (ds) = findDef n r) 2 () rfl rfl rfl rfl rfl ?_ ?_
  · intro _ hinv
    refine fR rfl ?_
    refine lM rfl rfl rfl ?_
    refine fM rfl ?_
    refine Run.condF rfl rfl (by simp) ?_
    refine fR rfl ?_
    have e : findDef n (ds) = none := by rw [hinv]; rfl
    rw [e]
    refine Run.fin rfl (EndOk.go ?_); exact .tup2 (.agg (.cons (.t rfl) (.cons (.t rfl) (.cons (.nil rfl) (.cons (.nil rfl) (.cons (.nil rfl) (.cons (.nil rfl) (.cons (.nil rfl) .nil)))))))) (.t rfl)
  · intro i x r _ h1 hi hd hinv ih
    refine fR rfl ?_
    refine lM rfl rfl rfl ?_
    refine fM rfl ?_
    refine Run.condT rfl rfl (by simp; omega) ?_
    refine fR rfl ?_
    refine Mid.elemMap rfl rfl rfl h1 rfl rfl ?_
    refine fM rfl ?_
    refine Run.cond rfl rfl (fun h => ?_) (fun h => ?_)
    · refine fR rfl ?_
      refine Mid.elemMap rfl rfl rfl h1 rfl rfl ?_
      refine fM rfl ?_
      have e : findDef n (ds) = some x := by rw [hinv]; simp only [findDef]; rw [if_pos h]
      rw [e]
      refine Run.fin rfl (EndOk.go ?_); exact .tup2 (.le (.same rfl)) (.t rfl)
    · refine fR rfl ?_
      refine aL rfl rfl rfl rfl rfl ?_
      refine fM rfl ?_
      have h' : ¬ (x.name == n) = true := by rw [h]; simp
      exact rWeak 2 rfl (ih () (by rw [hinv]; simp only [findDef]; rw [if_neg h'])) rfl rfl rfl

theorem rFieldOf_ok (H : Pr P) (d : Def) (hl : d.fields.length ≤ 140737488355328) (n : Str) : FnOk P 53 [d.v, .t (.str n)] ⟨[], 0⟩ { v := .tup [((findField n d.fields).getD Field.zero).v, .t (.bool (findField n d.fields).isSome)] } := by
  refine FnOk.run H.i53 H.mixed rfl rfl ?_
  refine fR rfl ?_
  refine rList d.fields (fun i (_ : Unit) => { env := [(1, .t (.str n)), (2, .ptr 0 0), (4, .ptr 1 0), (6, .t (.int .i64 i))], s := ⟨[(0, .cells [.t (.int .i64 d.kind), .t (.str d.name), .t (.lst (d.implements.map sE)), .t (.lst (d.dirs.map Dir.enc)), .t (.lst (d.fields.map Field.enc)), .t (.lst (d.members.map Member.enc)), .t (.lst (d.inputs.map Input.enc))]), (1, .cells [.t (.str []), .nils, .t (.str []), .nils, .nils])], 2⟩ }) (fun r i _ => findField n (d.fields) = findField n r) 2 () rfl rfl rfl rfl rfl ?_ ?_
  · intro _ hinv
    refine fR rfl ?_
    refine lM rfl rfl rfl ?_
    refine fM rfl ?_
    refine Run.condF rfl rfl (by simp) ?_
    refine fR rfl ?_
    have e : findField n (d.fields) = none := by rw [hinv]; rfl
    rw [e]
    refine Run.fin rfl (EndOk.go ?_); exact .tup2 (.agg (.cons (.t rfl) (.cons (.nil rfl) (.cons (.t rfl) (.cons (.nil rfl) (.cons (.nil rfl) .nil)))))) (.t rfl)
  · intro i x r _ h1 hi hd hinv ih
    refine fR rfl ?_
    refine lM rfl rfl rfl ?_
    refine fM rfl ?_
    refine Run.condT rfl rfl (by simp; omega) ?_
    refine fR rfl ?_
    refine Mid.elemMap rfl rfl rfl h1 rfl rfl ?_
    refine fM rfl ?_
    refine Run.cond rfl rfl (fun h => ?_) (fun h => ?_)
    · refine fR rfl ?_
      refine Mid.elemMap rfl rfl rfl h1 rfl rfl ?_
      refine fM rfl ?_
      have e : findField n (d.fields) = some x := by rw [hinv]; simp only [findField]; rw [if_pos h]
      rw [e]
      refine Run.fin rfl (EndOk.go ?_); exact .tup2 (.le (.same rfl)) (.t rfl)
    · refine fR rfl ?_
      refine aL rfl rfl rfl rfl rfl ?_
      refine fM rfl ?_
      have h' : ¬ (x.name == n) = true := by rw [h]; simp
      exact rWeak 2 rfl (ih () (by rw [hinv]; simp only [findField]; rw [if_neg h'])) rfl rfl rfl

theorem rArgument_ok (H : Pr P) (d : Dir) (hl : d.args.length ≤ 140737488355328) (n : Str) : FnOk P 119 [d.v, .t (.str n)] ⟨[], 0⟩ { v := .tup [((findArg n d.args).getD Val.zero).v, .t (.bool (findArg n d.args).isSome)] } := by
  refine FnOk.run H.i119 H.mixed rfl rfl ?_
  refine fR rfl ?_
  refine rList d.args (fun i (_ : Unit) => { env := [(1, .t (.str n)), (2, .ptr 0 0), (4, .ptr 1 0), (6, .t (.int .i64 i))], s := ⟨[(0, .cells [.t (.str d.name), .t (.lst (d.args.map Arg.enc))]), (1, .cells [.t (.int .i64 0), .t (.int .i64 0), .t (.str []), .nils, .nils])], 2⟩ }) (fun r i _ => findArg n (d.args) = findArg n r) 2 () rfl rfl rfl rfl rfl ?_ ?_
  · intro _ hinv
    refine fR rfl ?_
    refine lM rfl rfl rfl ?_
    refine fM rfl ?_
    refine Run.condF rfl rfl (by simp) ?_
    refine fR rfl ?_
    have e : findArg n (d.args) = none := by rw [hinv]; rfl
    rw [e]
    refine Run.fin rfl (EndOk.go ?_); exact .tup2 (.agg (.cons (.t rfl) (.cons (.t rfl) (.cons (.t rfl) (.cons (.nil rfl) (.cons (.nil rfl) .nil)))))) (.t rfl)
  · intro i x r _ h1 hi hd hinv ih
    refine fR rfl ?_
    refine lM rfl rfl rfl ?_
    refine fM rfl ?_
    refine Run.condT rfl rfl (by simp; omega) ?_
    refine fR rfl ?_
    refine Mid.elemMap rfl rfl rfl h1 rfl rfl ?_
    refine fM rfl ?_
    refine Run.cond rfl rfl (fun h => ?_) (fun h => ?_)
    · refine fR rfl ?_
      refine Mid.elemMap rfl rfl rfl h1 rfl rfl ?_
      refine fM rfl ?_
      have e : findArg n (d.args) = some x.val := by rw [hinv]; simp only [findArg]; rw [if_pos h]
      rw [e]
      refine Run.fin rfl (EndOk.go ?_); exact .tup2 (.le (.same rfl)) (.t rfl)
    · refine fR rfl ?_
      refine aL rfl rfl rfl rfl rfl ?_
      refine fM rfl ?_
      have h' : ¬ (x.name == n) = true := by rw [h]; simp
      exact rWeak 2 rfl (ih () (by rw [hinv]; simp only [findArg]; rw [if_neg h'])) rfl rfl rfl

theorem has_ok (H : Pr P) (l : List Dir) (hl : l.length ≤ 140737488355328) (n : Str) : FnOk P 90 [.t (.lst (l.map Dir.enc)), .t (.str n)] ⟨[], 0⟩ { v := .t (.bool (hasDir n l)) } := by
  refine FnOk.run H.i90 H.mixed rfl rfl ?_
  refine fR rfl ?_
  refine lM rfl rfl rfl ?_
  refine fM rfl ?_
  refine rList l (fun i (_ : Unit) => { env := [(1, .t (.str n)), (7, .t (.lst (l.map Dir.enc))), (8, .t (.int .i64 l.length)), (9, .t (.int .i64 i))], s := ⟨[], 0⟩ }) (fun r i _ => hasDir n l = hasDir n r) 0 () rfl rfl rfl rfl rfl ?_ ?_
  · intro _ hinv
    refine fR rfl ?_
    refine Run.condF rfl rfl (by simp) ?_
    refine fR rfl ?_
    refine Run.fin rfl (EndOk.go ?_); exact .t (by rw [hinv]; rfl)
  · intro i x r _ h1 hi hd hinv ih
    refine fR rfl ?_
    refine Run.condT rfl rfl (by simp; omega) ?_
    refine fR rfl ?_
    refine Mid.elemMap rfl rfl rfl h1 rfl rfl ?_
    refine fM rfl ?_
    refine Run.cond rfl rfl (fun h => ?_) (fun h => ?_)
    · refine fR rfl ?_
      refine Run.fin rfl (EndOk.go ?_); exact .t (by rw [hinv]; simp only [hasDir]; rw [if_pos h])
    · refine fR rfl ?_
      refine aL rfl rfl rfl rfl rfl ?_
      refine fM rfl ?_
      have h' : ¬ (x.name == n) = true := by rw [h]; simp
      exact rWeak 0 rfl (ih () (by rw [hinv]; simp only [hasDir]; rw [if_neg h'])) rfl rfl rfl
theorem rHas_ok (H : Pr P) (l : List Dir) (hl : l.length ≤ 140737488355328) (n : Str) : FnOk P 95 [.t (.lst (l.map Dir.enc)), .t (.str n)] ⟨[], 0⟩ { v := .t (.bool (hasDir n l)) } := by
  refine FnOk.run H.i95 H.mixed rfl rfl ?_
  refine fR rfl ?_
  refine rList l (fun i (_ : Unit) => { env := [(0, .t (.lst (l.map Dir.enc))), (1, .t (.str n)), (5, .t (.int .i64 i))], s := ⟨[], 0⟩ }) (fun r i _ => hasDir n l = hasDir n r) 0 () rfl rfl rfl rfl rfl ?_ ?_
  · intro _ hinv
    refine fR rfl ?_
    refine lM rfl rfl rfl ?_
    refine fM rfl ?_
    refine Run.condF rfl rfl (by simp) ?_
    refine fR rfl ?_
    refine Run.fin rfl (EndOk.go ?_); exact .t (by rw [hinv]; rfl)
  · intro i x r _ h1 hi hd hinv ih
    refine fR rfl ?_
    refine lM rfl rfl rfl ?_
    refine fM rfl ?_
    refine Run.condT rfl rfl (by simp; omega) ?_
    refine fR rfl ?_
    refine Mid.elemMap rfl rfl rfl h1 rfl rfl ?_
    refine fM rfl ?_
    refine Run.cond rfl rfl (fun h => ?_) (fun h => ?_)
    · refine fR rfl ?_
      refine Run.fin rfl (EndOk.go ?_); exact .t (by rw [hinv]; simp only [hasDir]; rw [if_pos h])
    · refine fR rfl ?_
      refine aL rfl rfl rfl rfl rfl ?_
      refine fM rfl ?_
      have h' : ¬ (x.name == n) = true := by rw [h]; simp
      exact rWeak 0 rfl (ih () (by rw [hinv]; simp only [hasDir]; rw [if_neg h'])) rfl rfl rfl
theorem arg_ok (H : Pr P) (l : List Dir) (hl : l.length ≤ 140737488355328) (ho : ∀ d, d ∈ l → d.Ok) (n a : Str) : FnOk P 91 [.t (.lst (l.map Dir.enc)), .t (.str n), .t (.str a)] ⟨[], 0⟩ { v := .tup [((dirArg n a l).getD Val.zero).v, .t (.bool (dirArg n a l).isSome)] } := by
  refine FnOk.run H.i91 H.mixed rfl rfl ?_
  refine fR rfl ?_
  refine lM rfl rfl rfl ?_
  refine fM rfl ?_
  refine rList l (fun i (_ : Unit) => { env := [(1, .t (.str n)), (2, .t (.str a)), (6, .ptr 0 0), (10, .t (.lst (l.map Dir.enc))), (11, .t (.int .i64 l.length)), (12, .t (.int .i64 i))], s := ⟨[(0, .cells [.t (.int .i64 0), .t (.int .i64 0), .t (.str []), .nils, .nils])], 1⟩ }) (fun r i _ => dirArg n a l = dirArg n a r) 1 () rfl rfl rfl rfl rfl ?_ ?_
  · intro _ hinv
    refine fR rfl ?_
    refine Run.condF rfl rfl (by simp) ?_
    refine fR rfl ?_
    have e : dirArg n a l = none := by rw [hinv]; rfl
    rw [e]
    refine Run.fin rfl (EndOk.go ?_); exact .tup2 (.agg (.cons (.t rfl) (.cons (.t rfl) (.cons (.t rfl) (.cons (.nil rfl) (.cons (.nil rfl) .nil)))))) (.t rfl)
  · intro i x r _ h1 hi hd hinv ih
    refine fR rfl ?_
    refine Run.condT rfl rfl (by simp; omega) ?_
    refine fR rfl ?_
    refine Mid.elemMap rfl rfl rfl h1 rfl rfl ?_
    refine fM rfl ?_
    refine Run.cond rfl rfl (fun h => ?_) (fun h => ?_)
    · refine fR rfl ?_
      refine Mid.call (argument_ok H x (ho x (List.mem_of_getElem? h1)).l a) rfl rfl rfl rfl ?_
      refine fM rfl ?_
      have e : dirArg n a l = findArg a x.args := by rw [hinv]; simp only [dirArg]; rw [if_pos h]
      rw [e]
      refine Run.fin rfl (EndOk.go ?_); exact .tup2 (.le (.same rfl)) (.t rfl)
    · refine fR rfl ?_
      refine aL rfl rfl rfl rfl rfl ?_
      refine fM rfl ?_
      have h' : ¬ (x.name == n) = true := by rw [h]; simp
      exact rWeak 1 rfl (ih () (by rw [hinv]; simp only [dirArg]; rw [if_neg h'])) rfl rfl rfl
theorem rArg_ok (H : Pr P) (l : List Dir) (hl : l.length ≤ 140737488355328) (ho : ∀ d, d ∈ l → d.Ok) (n a : Str) : FnOk P 96 [.t (.lst (l.map Dir.enc)), .t (.str n), .t (.str a)] ⟨[], 0⟩ { v := .tup [((dirArg n a l).getD Val.zero).v, .t (.bool (dirArg n a l).isSome)] } := by
  refine FnOk.run H.i96 H.mixed rfl rfl ?_
  refine fR rfl ?_
  refine rList l (fun i (_ : Unit) => { env := [(0, .t (.lst (l.map Dir.enc))), (1, .t (.str n)), (2, .t (.str a)), (6, .ptr 0 0), (8, .t (.int .i64 i))], s := ⟨[(0, .cells [.t (.int .i64 0), .t (.int .i64 0), .t (.str []), .nils, .nils])], 1⟩ }) (fun r i _ => dirArg n a l = dirArg n a r) 1 () rfl rfl rfl rfl rfl ?_ ?_
  · intro _ hinv
    refine fR rfl ?_
    refine lM rfl rfl rfl ?_
    refine fM rfl ?_
    refine Run.condF rfl rfl (by simp) ?_
    refine fR rfl ?_
    have e : dirArg n a l = none := by rw [hinv]; rfl
    rw [e]
    refine Run.fin rfl (EndOk.go ?_); exact .tup2 (.agg (.cons (.t rfl) (.cons (.t rfl) (.cons (.t rfl) (.cons (.nil rfl) (.cons (.nil rfl) .nil)))))) (.t rfl)
  · intro i x r _ h1 hi hd hinv ih
    refine fR rfl ?_
    refine lM rfl rfl rfl ?_
    refine fM rfl ?_
    refine Run.condT rfl rfl (by simp; omega) ?_
    refine fR rfl ?_
    refine Mid.elemMap rfl rfl rfl h1 rfl rfl ?_
    refine fM rfl ?_
    refine Run.cond rfl rfl (fun h => ?_) (fun h => ?_)
    · refine fR rfl ?_
      refine Mid.elemMap rfl rfl rfl h1 rfl rfl ?_
      refine fM rfl ?_
      refine Mid.call (rArgument_ok H x (ho x (List.mem_of_getElem? h1)).l a) rfl rfl rfl rfl ?_
      refine fM rfl ?_
      have e : dirArg n a l = findArg a x.args := by rw [hinv]; simp only [dirArg]; rw [if_pos h]
      rw [e]
      refine Run.fin rfl (EndOk.go ?_); exact .tup2 (.le (.same rfl)) (.t rfl)
    · refine fR rfl ?_
      refine aL rfl rfl rfl rfl rfl ?_
      refine fM rfl ?_
      have h' : ¬ (x.name == n) = true := by rw [h]; simp
      exact rWeak 1 rfl (ih () (by rw [hinv]; simp only [dirArg]; rw [if_neg h'])) rfl rfl rfl
end Go.GB.C43

/-
  A43B: contracts of chapters 43's functions: permissions.
-/
namespace Go.GB.C43
open Go.GB
set_option linter.unusedSimpArgs false
set_option linter.unusedVariables false
set_option maxRecDepth 100000
set_option maxHeartbeats 1000000
variable {P : Program}

def indexS (s : Str) : List Str → Int → Int
  | [], _ => -1
  | x :: r, i => if (s == x) = true then i else indexS s r (i + 1)
theorem index_ok (H : Pr P) (l : List Str) (hl : l.length ≤ 140737488355328) (s : Str) : FnOk P 114 [.t (.lst (l.map sE)), .t (.str s)] ⟨[], 0⟩ { v := .t (.int .i64 (indexS s l 0)) } := by
  refine FnOk.run H.i114 H.mixed rfl rfl ?_
  refine fR rfl ?_
  refine lM rfl rfl rfl ?_
  refine fM rfl ?_
  refine rList l (fun i (_ : Unit) => { env := [(0, .t (.lst (l.map sE))), (1, .t (.str s)), (7, .t (.int .i64 l.length)), (8, .t (.int .i64 i))], s := ⟨[], 0⟩ }) (fun r i _ => indexS s l 0 = indexS s r i) 0 () rfl rfl rfl rfl rfl ?_ ?_
  · intro _ hinv
    refine fR rfl ?_
    refine Run.condF rfl rfl (by simp) ?_
    refine fR rfl ?_
    refine Run.fin rfl (EndOk.go ?_); exact .t (by rw [hinv]; simp [indexS])
  · intro i x r _ h1 hi hd hinv ih
    refine fR rfl ?_
    refine Run.condT rfl rfl (by simp; omega) ?_
    refine fR rfl ?_
    refine Mid.elemMap rfl rfl rfl h1 rfl rfl ?_
    refine fM rfl ?_
    refine Run.cond rfl rfl (fun h => ?_) (fun h => ?_)
    · refine fR rfl ?_
      refine Run.fin rfl (EndOk.go ?_); exact .t (by rw [hinv]; simp only [indexS]; rw [if_pos h])
    · refine fR rfl ?_
      refine aL rfl rfl rfl rfl rfl ?_
      refine fM rfl ?_
      have h' : ¬ (s == x) = true := by rw [h]; simp
      exact rWeak 0 rfl (ih () (by rw [hinv]; simp only [indexS]; rw [if_neg h']; rfl)) rfl rfl rfl
theorem index_mem (s : Str) : ∀ (l : List Str) (i : Int), 0 ≤ i → (decide (indexS s l i ≥ 0)) = decide (s ∈ l)
  | [], i, _ => by simp [indexS]
  | x :: r, i, hi => by
    by_cases h : s = x
    · subst h; simp [indexS, hi]
    · have h' : ¬ (s == x) = true := by simpa using h
      have e : indexS s (x :: r) i = indexS s r (i + 1) := by simp only [indexS]; rw [if_neg h']
      rw [e, index_mem s r (i + 1) (by omega)]; simp [h]
theorem contains_ok (H : Pr P) (l : List Str) (hl : l.length ≤ 140737488355328) (s : Str) : FnOk P 94 [.t (.lst (l.map sE)), .t (.str s)] ⟨[], 0⟩ { v := .t (.bool (decide (s ∈ l))) } := by
  refine FnOk.run H.i94 H.mixed rfl rfl ?_
  refine fR rfl ?_
  refine Mid.call (index_ok H l hl s) rfl rfl rfl rfl ?_
  refine fM rfl ?_
  refine Run.fin rfl (EndOk.go ?_); exact .t (by rw [← index_mem s l 0 (by omega)])

/-- a scope that is not one of the user's -/
def badScope (u : User) (x : Val) : Bool := !(x.kind == 3) || !(decide (x.text ∈ u.scopes))
theorem perm1_ok (H : Pr P) (u : User) (hu : u.scopes.length ≤ 140737488355328) (x : Val) : FnOk P 93 [x.v, .ptr 0 0] ⟨[(0, .cells [.t (.bool u.known), .t (.lst (u.scopes.map sE))])], 1⟩ { v := .t (.bool (badScope u x)), rd := true } := by
  refine FnOk.run H.i93 H.mixed rfl rfl ?_
  refine fR rfl ?_
  refine caG rfl rfl (fun hg => ⟨_, rfl, contains_ok H u.scopes hu x.text, rfl⟩) rfl rfl ?_
  refine fM rfl ?_
  refine Run.fin rfl (EndOk.sameX rfl rfl rfl (by first | exact rfl | exact nSto_bd | exact tSto_bd) (.t (rfl)))
def idxV (p : Val → Bool) : Int → List Val → Int
  | _, [] => -1
  | i, b :: l => if p b = true then i else idxV p (i + 1) l
theorem idxV_ge (p : Val → Bool) : ∀ (l : List Val) (i : Int), 0 ≤ i → decide (idxV p i l ≥ 0) = l.any p
  | [], i, h => by simp [idxV]
  | b :: l, i, h => by
    have ih := idxV_ge p l (i + 1) (by omega)
    by_cases hp : p b = true
    · simp [idxV, hp, h]
    · have e : idxV p i (b :: l) = idxV p (i + 1) l := by simp only [idxV]; rw [if_neg hp]
      rw [e, ih]; simp [hp]
theorem indexFuncP_ok (H : Pr P) (u : User) (hu : u.scopes.length ≤ 140737488355328) (l : List Val) (hl : l.length ≤ 140737488355328) : FnOk P 118 [.t (.lst (l.map Val.enc)), .fn 93 [(0, 0)]] ⟨[(0, .cells [.t (.bool u.known), .t (.lst (u.scopes.map sE))])], 1⟩ { v := .t (.int .i64 (idxV (badScope u) 0 l)), rd := true } := by
  refine FnOk.run H.i118 H.mixed rfl rfl ?_
  refine fR rfl ?_
  refine lM rfl rfl rfl ?_
  refine fM rfl ?_
  refine rList l (fun i (_ : Unit) => { env := [(0, .t (.lst (l.map Val.enc))), (1, .fn 93 [(0, 0)]), (7, .t (.int .i64 l.length)), (8, .t (.int .i64 i))], s := ⟨[(0, .cells [.t (.bool u.known), .t (.lst (u.scopes.map sE))])], 1⟩ }) (fun r i _ => idxV (badScope u) 0 l = idxV (badScope u) i r) 1 () rfl rfl rfl rfl rfl ?_ ?_
  · intro _ hinv
    refine fR rfl ?_
    refine Run.condF rfl rfl (by simp) ?_
    refine fR rfl ?_
    refine Run.fin rfl (EndOk.sameX rfl rfl rfl (by first | exact rfl | exact nSto_bd | exact tSto_bd) (.t ((by rw [hinv]; rfl))))
  · intro i x r _ h1 hi hd hinv ih
    refine fR rfl ?_
    refine Run.condT rfl rfl (by simp; omega) ?_
    refine fR rfl ?_
    refine Mid.elemMapC (Val.enc_eq x) rfl rfl rfl h1 rfl rfl ?_
    refine fM rfl ?_
    refine Mid.callvS rfl (perm1_ok H u hu x) rfl rfl rfl rfl ?_
    refine fM rfl ?_
    refine Run.cond rfl rfl (fun hc => ?_) (fun hc => ?_)
    · refine fR rfl ?_
      refine Run.fin rfl (EndOk.sameX rfl rfl rfl (by first | exact rfl | exact nSto_bd | exact tSto_bd) (.t ((by rw [hinv]; simp only [idxV]; rw [if_pos hc]))))
    · refine fR rfl ?_
      refine aL rfl rfl rfl rfl rfl ?_
      refine fM rfl ?_
      have h' : ¬ badScope u x = true := by rw [hc]; simp
      exact rWeak 1 rfl (ih () (by rw [hinv]; simp only [idxV]; rw [if_neg h']; rfl)) rfl rfl rfl
theorem containsFuncP_ok (H : Pr P) (u : User) (hu : u.scopes.length ≤ 140737488355328) (l : List Val) (hl : l.length ≤ 140737488355328) : FnOk P 92 [.t (.lst (l.map Val.enc)), .fn 93 [(0, 0)]] ⟨[(0, .cells [.t (.bool u.known), .t (.lst (u.scopes.map sE))])], 1⟩ { v := .t (.bool (l.any (badScope u))), rd := true } := by
  refine FnOk.run H.i92 H.mixed rfl rfl ?_
  refine fR rfl ?_
  refine Mid.callS (indexFuncP_ok H u hu l hl) rfl rfl (by first | exact rfl | exact nSto_bd | exact tSto_bd) rfl ?_
  refine fM rfl ?_
  refine Run.fin rfl (EndOk.sameX rfl rfl rfl (by first | exact rfl | exact nSto_bd | exact tSto_bd) (.t ((by rw [← idxV_ge (badScope u) l 0 (by omega)]))))

def authS : Str := [97, 117, 116, 104, 101, 110, 116, 105, 99, 97, 116, 101, 100]
def scopesS : Str := [115, 99, 111, 112, 101, 115]
def allS : Str := [97, 108, 108]
def permits (l : List Dir) (u : User) : Bool :=
  if (hasDir authS l && !u.known) = true then false
  else if (!hasDir scopesS l) = true then true
  else if (((dirArg scopesS allS l).getD Val.zero).kind != 5) = true then u.known
  else u.known && !(((dirArg scopesS allS l).getD Val.zero).items.any (badScope u))

theorem argOk {l : List Dir} (ho : ∀ d, d ∈ l → d.Ok) (n a : Str) : ((dirArg n a l).getD Val.zero).Ok := by
  cases h : dirArg n a l with
  | none => exact Val.zero_ok
  | some v => exact dirArg_ok ho h

theorem permits_ok (H : Pr P) (l : List Dir) (hl : l.length ≤ 140737488355328) (ho : ∀ d, d ∈ l → d.Ok) (u : User) (hu : u.scopes.length ≤ 140737488355328) : FnOk P 51 [.t (.lst (l.map Dir.enc)), u.v] ⟨[], 0⟩ { v := .t (.bool (permits l u)) } := by
  have hv := (argOk ho scopesS allS).il
  refine FnOk.run H.i51 H.mixed rfl rfl ?_
  refine fR rfl ?_
  refine Mid.call (has_ok H l hl authS) rfl rfl rfl rfl ?_
  refine fM rfl ?_
  refine Run.cond rfl rfl (fun h1 => ?_) (fun h1 => ?_)
  · refine fR rfl ?_
    refine Run.fin rfl (EndOk.go ?_); exact .t (by simp only [permits]; rw [if_pos h1])
  · have h1' : ¬ (hasDir authS l && !u.known) = true := by
      intro e; rw [show (hasDir authS l && !u.known) = false from h1] at e; cases e
    refine fR rfl ?_
    refine Mid.call (has_ok H l hl scopesS) rfl rfl rfl rfl ?_
    refine fM rfl ?_
    refine Run.cond rfl rfl (fun h2 => ?_) (fun h2 => ?_)
    · refine fR rfl ?_
      refine Run.fin rfl (EndOk.go ?_); exact .t (by simp only [permits]; rw [if_neg h1', if_pos h2])
    · have h2' : ¬ (!hasDir scopesS l) = true := by rw [h2]; simp
      refine fR rfl ?_
      refine Mid.call (arg_ok H l hl ho scopesS allS) rfl rfl rfl rfl ?_
      refine fM rfl ?_
      refine Run.cond rfl rfl (fun h3 => ?_) (fun h3 => ?_)
      · refine fR rfl ?_
        refine Run.fin rfl (EndOk.go ?_); exact .t (by simp only [permits]; rw [if_neg h1', if_neg h2', if_pos h3])
      · have h3' : ¬ (((dirArg scopesS allS l).getD Val.zero).kind != 5) = true := by rw [h3]; simp
        have e : permits l u = (u.known && !(((dirArg scopesS allS l).getD Val.zero).items.any (badScope u))) := by simp only [permits]; rw [if_neg h1', if_neg h2', if_neg h3']
        rw [e]
        obtain ⟨kn, sc⟩ := u
        cases kn with
        | false =>
          refine fR rfl ?_
          refine Mid.grdF rfl rfl rfl rfl rfl ?_
          refine Mid.grdF rfl rfl rfl rfl rfl ?_
          refine fM rfl ?_
          refine Run.fin rfl (EndOk.go ?_); exact .t rfl
        | true =>
          refine fR rfl ?_
          refine Mid.ungd rfl rfl rfl ?_
          refine Mid.callRd [0] (containsFuncP_ok H ⟨true, sc⟩ hu ((dirArg scopesS allS l).getD Val.zero).items (by omega)) rfl rfl rfl rfl (by simp [stoBd]; simp [AObj.bd, V.bds, V.bd]) (by repeat' (first | exact trivial | exact rfl | refine And.intro ?_ ?_ | exact (congrArg some (AObj.ren_mE _ _ _ _ _ _)).symm | exact (congrArg some (AObj.ren_cE _ _ _)).symm)) rfl ?_
          refine fM rfl ?_
          refine Run.fin rfl (EndOk.go ?_); exact .t rfl
end Go.GB.C43

/-
  A43C: contracts of chapters 43's functions: types, fields, copies, filters.
-/
namespace Go.GB.C43
open Go.GB
set_option linter.unusedSimpArgs false
set_option linter.unusedVariables false
set_option maxRecDepth 100000
set_option maxHeartbeats 1000000
variable {P : Program}

def typeP (ds : List Def) (n : Str) (u : User) : Bool := !(findDef n ds).isSome || permits ((findDef n ds).getD Def.zero).dirs u
def mayP (ds : List Def) (u : User) (on f : Str) : Bool :=
  if (!typeP ds on u) = true then false
  else !(findField f ((findDef on ds).getD Def.zero).fields).isSome || (permits ((findField f ((findDef on ds).getD Def.zero).fields).getD Field.zero).dirs u && typeP ds ((findField f ((findDef on ds).getD Def.zero).fields).getD Field.zero).ty.name u)

theorem defOk {ds : List Def} (ho : DocOk ds) (n : Str) : ((findDef n ds).getD Def.zero).Ok := by
  cases h : findDef n ds with
  | none => exact Def.zero_ok
  | some d => exact ho.d d (findDef_mem h)
theorem fieldOk {d : Def} (ho : d.Ok) (n : Str) : ((findField n d.fields).getD Field.zero).Ok := by
  cases h : findField n d.fields with
  | none => exact Field.zero_ok
  | some f => exact ho.f f (findField_mem h)

theorem type_ok (H : Pr P) (ds : List Def) (ho : DocOk ds) (n : Str) (u : User) (hu : u.scopes.length ≤ 140737488355328) : FnOk P 17 [docV ds, .t (.str n), u.v] ⟨[], 0⟩ { v := .t (.bool (typeP ds n u)) } := by
  have hd := defOk ho n
  refine FnOk.run H.i17 H.mixed rfl rfl ?_
  refine fR rfl ?_
  refine Mid.call (find_ok H ds ho.l n) rfl rfl rfl rfl ?_
  refine fM rfl ?_
  refine caG rfl rfl (fun hg => ⟨_, rfl, permits_ok H _ hd.dl hd.d u hu, rfl⟩) rfl rfl ?_
  refine fM rfl ?_
  refine Run.fin rfl (EndOk.go ?_); exact .t (by simp [typeP])
theorem may_ok (H : Pr P) (ds : List Def) (ho : DocOk ds) (on f : Str) (u : User) (hu : u.scopes.length ≤ 140737488355328) : FnOk P 15 [docV ds, .t (.str on), .t (.str f), u.v] ⟨[], 0⟩ { v := .t (.bool (mayP ds u on f)) } := by
  have hd := defOk ho on
  have hf := fieldOk hd f
  refine FnOk.run H.i15 H.mixed rfl rfl ?_
  refine fR rfl ?_
  refine Mid.call (type_ok H ds ho on u hu) rfl rfl rfl rfl ?_
  refine fM rfl ?_
  refine Run.cond rfl rfl (fun h => ?_) (fun h => ?_)
  · refine fR rfl ?_
    refine Run.fin rfl (EndOk.go ?_); exact .t (by simp only [mayP]; rw [if_pos h])
  · have h' : ¬ (!typeP ds on u) = true := by rw [h]; simp
    refine fR rfl ?_
    refine Mid.call (find_ok H ds ho.l on) rfl rfl rfl rfl ?_
    refine fM rfl ?_
    refine Mid.call (fieldOf_ok H _ hd.fl f) rfl rfl rfl rfl ?_
    refine fM rfl ?_
    refine caG rfl rfl (fun hg => ⟨_, rfl, permits_ok H _ hf.l hf.d u hu, rfl⟩) rfl rfl ?_
    refine fM rfl ?_
    refine caG rfl rfl (fun hg => ⟨_, rfl, type_ok H ds ho _ u hu, rfl⟩) rfl rfl ?_
    refine fM rfl ?_
    refine Run.fin rfl (EndOk.go ?_); exact .t (by simp only [mayP]; rw [if_neg h'])

theorem cloneI_ok (H : Pr P) (l : List Int) (hl : l.length * 8 ≤ 140737488355328) : FnOk P 99 [.t (.lst (l.map nE))] ⟨[], 0⟩ { v := .t (.lst (l.map nE)) } := by
  refine FnOk.run H.i99 H.mixed rfl rfl ?_
  refine fR rfl ?_
  refine p0 rfl ?_
  refine fM rfl ?_
  refine Run.condU rfl rfl (fun h => ?_) (fun _ => ?_)
  · have hn : l = [] := by
      cases l with
      | nil => rfl
      | cons x r =>
        have := h (nE x) (by simp)
        simp [nE] at this
    subst hn
    refine fR rfl ?_
    refine Run.fin rfl (EndOk.go ?_); exact .nil rfl
  · refine fR rfl ?_
    refine apN nE l rfl rfl rfl ?_ (h1 := hl) (h2 := by omega)
    refine fM rfl ?_
    refine Run.fin rfl (EndOk.go ?_); exact .own rfl
theorem cloneS_ok (H : Pr P) (l : List Str) (hl : l.length * 16 ≤ 140737488355328) : FnOk P 122 [.t (.lst (l.map sE))] ⟨[], 0⟩ { v := .t (.lst (l.map sE)) } := by
  refine FnOk.run H.i122 H.mixed rfl rfl ?_
  refine fR rfl ?_
  refine p0 rfl ?_
  refine fM rfl ?_
  refine Run.condU rfl rfl (fun h => ?_) (fun _ => ?_)
  · have hn : l = [] := by
      cases l with
      | nil => rfl
      | cons x r =>
        have := h (sE x) (by simp)
        simp [sE] at this
    subst hn
    refine fR rfl ?_
    refine Run.fin rfl (EndOk.go ?_); exact .nil rfl
  · refine fR rfl ?_
    refine apN sE l rfl rfl rfl ?_ (h1 := hl) (h2 := by omega)
    refine fM rfl ?_
    refine Run.fin rfl (EndOk.go ?_); exact .own rfl
theorem cloneH_ok (H : Pr P) (l : List Hop) (hl : l.length * 32 ≤ 140737488355328) : FnOk P 120 [.t (.lst (l.map Hop.enc))] ⟨[], 0⟩ { v := .t (.lst (l.map Hop.enc)) } := by
  refine FnOk.run H.i120 H.mixed rfl rfl ?_
  refine fR rfl ?_
  refine p0 rfl ?_
  refine fM rfl ?_
  refine Run.condU rfl rfl (fun h => ?_) (fun _ => ?_)
  · have hn : l = [] := by
      cases l with
      | nil => rfl
      | cons x r =>
        have := h (Hop.enc x) (by simp)
        simp [Hop.enc] at this
    subst hn
    refine fR rfl ?_
    refine Run.fin rfl (EndOk.go ?_); exact .nil rfl
  · refine fR rfl ?_
    refine apN Hop.enc l rfl rfl rfl ?_ (h1 := hl) (h2 := by omega)
    refine fM rfl ?_
    refine Run.fin rfl (EndOk.go ?_); exact .own (by simp)

theorem copies_ok (H : Pr P) (l : List Val) (hl : l.length * 80 ≤ 140737488355328) (hc : ∀ x, x ∈ l → FnOk P 100 [x.v] ⟨[], 0⟩ { v := x.v }) : FnOk P 121 [.t (.lst (l.map Val.enc))] ⟨[], 0⟩ { v := .t (.lst (l.map Val.enc)) } := by
  refine FnOk.run H.i121 H.mixed rfl rfl ?_
  refine fR rfl ?_
  refine lM rfl rfl rfl ?_
  refine fM rfl ?_
  refine rList l (fun i (B : List Val) => { env := [(3, .own 0 5 (B.map Val.enc)), (6, .t (.lst (l.map Val.enc))), (7, .t (.int .i64 l.length)), (8, .t (.int .i64 i))], s := ⟨[(0, .arr B.length)], 1⟩ }) (fun r i B => B.length = i ∧ B ++ r = l) 0 [] rfl ⟨rfl, rfl⟩ rfl rfl rfl ?_ ?_
  · rintro B ⟨_, hB⟩
    refine fR rfl ?_
    refine Run.condF rfl rfl (by simp) ?_
    refine fR rfl ?_
    refine Run.fin rfl (EndOk.go ?_); exact .own (by rw [← hB]; simp)
  · rintro i x r B h1 hi hd ⟨hBl, hB⟩ ih
    refine fR rfl ?_
    refine Run.condT rfl rfl (by simp; omega) ?_
    refine fR rfl ?_
    refine Mid.elemMapC (Val.enc_eq x) rfl rfl rfl h1 rfl rfl ?_
    refine fM rfl ?_
    refine Mid.call (hc x (List.mem_of_getElem? h1)) rfl rfl rfl rfl ?_
    refine fM rfl ?_
    refine apM Val.enc B [x] rfl (congrArg (fun c => some (T.lst [c])) (Val.enc_eq x).symm) rfl rfl rfl ?_ (hl := fun x => (congrArg List.length (Val.enc_eq x)).trans rfl)
    refine fM rfl ?_
    refine aL rfl rfl rfl rfl rfl ?_
    refine fM rfl ?_
    exact rWeak 1 rfl (ih (B ++ [x]) ⟨by simp; omega, by rw [← hB]; simp⟩) rfl rfl rfl
theorem copy_ok (H : Pr P) : ∀ (k : Nat) (v : Val), SizeOf.sizeOf v ≤ k → v.Ok → FnOk P 100 [v.v] ⟨[], 0⟩ { v := v.v }
  | 0, v, h, _ => by cases v; simp at h
  | k + 1, v, h, ho => by
    refine FnOk.run H.i100 H.mixed rfl rfl ?_
    refine fR rfl ?_
    refine Mid.call (copies_ok H v.items ho.il (fun x hx => copy_ok H k x (by have := Val.size_items v hx; omega) (ho.it x hx))) rfl rfl rfl rfl ?_
    refine fM rfl ?_
    refine Mid.call (cloneS_ok H v.keys ho.kl) rfl rfl rfl rfl ?_
    refine fM rfl ?_
    refine Run.fin rfl (EndOk.go ?_); exact .le (.same rfl)
theorem valCopy_ok (H : Pr P) (v : Val) (ho : v.Ok) : FnOk P 100 [v.v] ⟨[], 0⟩ { v := v.v } := copy_ok H _ v (Nat.le_refl _) ho
end Go.GB.C43

/-
  A43D: contracts of chapters 43's functions: the reference's permissions.
-/
namespace Go.GB.C43
open Go.GB
set_option linter.unusedSimpArgs false
set_option linter.unusedVariables false
set_option maxRecDepth 100000
set_option maxHeartbeats 1000000
variable {P : Program}

def hasS (s : Str) : List Str → Bool
  | [] => false
  | x :: r => if (x == s) = true then true else hasS s r
theorem hasS_eq (s : Str) (l : List Str) : hasS s l = decide (s ∈ l) := by
  induction l with
  | nil => simp [hasS]
  | cons x r ih =>
    simp only [hasS]
    by_cases h : x = s
    · subst h; simp
    · have : ¬ s = x := fun e => h e.symm
      have h' : ¬ (x == s) = true := by simpa using h
      rw [if_neg h', ih]; simp [this]
theorem rIn_ok (H : Pr P) (l : List Str) (hl : l.length ≤ 140737488355328) (s : Str) : FnOk P 97 [.t (.lst (l.map sE)), .t (.str s)] ⟨[], 0⟩ { v := .t (.bool (decide (s ∈ l))) } := by
  rw [← hasS_eq]
  refine FnOk.run H.i97 H.mixed rfl rfl ?_
  refine fR rfl ?_
  refine rList l (fun i (_ : Unit) => { env := [(0, .t (.lst (l.map sE))), (1, .t (.str s)), (5, .t (.int .i64 i))], s := ⟨[], 0⟩ }) (fun r i _ => hasS s l = hasS s r) 0 () rfl rfl rfl rfl rfl ?_ ?_
  · intro _ hinv
    refine fR rfl ?_
    refine lM rfl rfl rfl ?_
    refine fM rfl ?_
    refine Run.condF rfl rfl (by simp) ?_
    refine fR rfl ?_
    refine Run.fin rfl (EndOk.go ?_); exact .t (by rw [hinv]; rfl)
  · intro i x r _ h1 hi hd hinv ih
    refine fR rfl ?_
    refine lM rfl rfl rfl ?_
    refine fM rfl ?_
    refine Run.condT rfl rfl (by simp; omega) ?_
    refine fR rfl ?_
    refine Mid.elemMap rfl rfl rfl h1 rfl rfl ?_
    refine fM rfl ?_
    refine Run.cond rfl rfl (fun h => ?_) (fun h => ?_)
    · refine fR rfl ?_
      refine Run.fin rfl (EndOk.go ?_); exact .t (by rw [hinv]; simp only [hasS]; rw [if_pos h])
    · refine fR rfl ?_
      refine aL rfl rfl rfl rfl rfl ?_
      refine fM rfl ?_
      have h' : ¬ (x == s) = true := by rw [h]; simp
      exact rWeak 0 rfl (ih () (by rw [hinv]; simp only [hasS]; rw [if_neg h'])) rfl rfl rfl

def permitR (l : List Dir) (u : User) : Bool :=
  if ((hasDir authS l || hasDir scopesS l) && !u.known) = true then false
  else if (!(dirArg scopesS allS l).isSome || ((dirArg scopesS allS l).getD Val.zero).kind != 5) = true then true
  else !(((dirArg scopesS allS l).getD Val.zero).items.any (badScope u))
theorem dirArg_none {n a : Str} : ∀ {l : List Dir}, hasDir n l = false → dirArg n a l = none
  | [], _ => rfl
  | d :: r, h => by
    simp only [hasDir] at h
    simp only [dirArg]
    by_cases hd : (d.name == n) = true
    · rw [if_pos hd] at h; cases h
    · rw [if_neg hd] at h ⊢; exact dirArg_none h
theorem permit_eq (l : List Dir) (u : User) : permitR l u = permits l u := by
  simp only [permitR, permits]
  cases ha : hasDir authS l <;> cases hs : hasDir scopesS l <;> cases hk : u.known
  all_goals (try (have hn := dirArg_none (a := allS) hs; simp [hn]; done))
  all_goals (try (simp; done))
  all_goals
    cases hd : dirArg scopesS allS l with
    | none => simp [Val.zero, Val.kind]
    | some v =>
      simp only [Option.getD_some, Option.isSome_some]
      cases hv : (v.kind != 5) <;> simp
theorem permit_ok (H : Pr P) (l : List Dir) (hl : l.length ≤ 140737488355328) (ho : ∀ d, d ∈ l → d.Ok) (u : User) (hu : u.scopes.length ≤ 140737488355328) : FnOk P 54 [.t (.lst (l.map Dir.enc)), u.v] ⟨[], 0⟩ { v := .t (.bool (permits l u)) } := by
  rw [← permit_eq]
  have hv := (argOk ho scopesS allS).il
  refine FnOk.run H.i54 H.mixed rfl rfl ?_
  refine fR rfl ?_
  refine Mid.call (rHas_ok H l hl authS) rfl rfl rfl rfl ?_
  refine fM rfl ?_
  refine caG rfl rfl (fun hg => ⟨_, rfl, rHas_ok H l hl scopesS, rfl⟩) rfl rfl ?_
  refine fM rfl ?_
  refine Run.cond rfl rfl (fun h1 => ?_) (fun h1 => ?_)
  · refine fR rfl ?_
    refine Run.fin rfl (EndOk.go ?_); exact .t (by simp only [permitR]; rw [if_pos (by simpa using h1)])
  · have h1' : ¬ ((hasDir authS l || hasDir scopesS l) && !u.known) = true := by
      intro e; simp at e h1; rcases e.1 with e1 | e1 <;> simp_all
    refine fR rfl ?_
    refine Mid.call (rArg_ok H l hl ho scopesS allS) rfl rfl rfl rfl ?_
    refine fM rfl ?_
    refine Run.cond rfl rfl (fun h2 => ?_) (fun h2 => ?_)
    · refine fR rfl ?_
      refine Run.fin rfl (EndOk.go ?_); exact .t (by simp only [permitR]; rw [if_neg h1', if_pos (by simpa using h2)])
    · have h2' : ¬ (!(dirArg scopesS allS l).isSome || ((dirArg scopesS allS l).getD Val.zero).kind != 5) = true := by
        intro e; simp at e h2; rcases e with e1 | e1 <;> simp_all
      have e : permitR l u = !(((dirArg scopesS allS l).getD Val.zero).items.any (badScope u)) := by simp only [permitR]; rw [if_neg h1', if_neg h2']
      rw [e]
      generalize (dirArg scopesS allS l).getD Val.zero = v at hv
      refine fR rfl ?_
      refine rList v.items (fun i (_ : Unit) => { env := [(3, .ptr 0 0), (5, .ptr 1 0), (7, .t (.int .i64 i))], s := ⟨[(0, .cells [.t (.bool u.known), .t (.lst (u.scopes.map sE))]), (1, .cells [.t (.int .i64 v.kind), .t (.int .i64 v.int), .t (.str v.text), .t (.lst (v.items.map Val.enc)), .t (.lst (v.keys.map sE))])], 2⟩ }) (fun r i _ => v.items.any (badScope u) = r.any (badScope u)) 2 () rfl rfl rfl rfl rfl ?_ ?_
      · intro _ hinv
        refine fR rfl ?_
        refine lM rfl rfl rfl ?_
        refine fM rfl ?_
        refine Run.condF rfl rfl (by simp) ?_
        refine fR rfl ?_
        refine Run.fin rfl (EndOk.go ?_); exact .t (by rw [hinv]; rfl)
      · intro i x r _ h1 hi hd hinv ih
        refine fR rfl ?_
        refine lM rfl rfl rfl ?_
        refine fM rfl ?_
        refine Run.condT rfl rfl (by simp; omega) ?_
        refine fR rfl ?_
        refine Mid.elemMapC (Val.enc_eq x) rfl rfl rfl h1 rfl rfl ?_
        refine fM rfl ?_
        refine Mid.elemMapCG (Val.enc_eq x) rfl rfl rfl rfl h1 rfl (by (repeat' (first | exact trivial | exact Bool.not_or_self _ | exact grd1 _ | exact grd2 _ | exact grd3 _ _ | exact grd4 _ _ | refine And.intro ?_ ?_ | exact rfl | (simp; done) | (simp <;> omega))); done) (by (repeat' (first | exact trivial | exact Bool.not_or_self _ | exact grd1 _ | exact grd2 _ | exact grd3 _ _ | exact grd4 _ _ | refine And.intro ?_ ?_ | exact rfl | (simp; done) | (simp <;> omega))); done) rfl ?_
        refine fM rfl ?_
        refine caG rfl rfl (fun hg => ⟨_, rfl, rIn_ok H u.scopes hu x.text, rfl⟩) rfl rfl ?_
        refine fM rfl ?_
        refine Run.cond rfl rfl (fun hc => ?_) (fun hc => ?_)
        · refine fR rfl ?_
          have hb : badScope u x = true := hc
          refine Run.fin rfl (EndOk.go ?_); exact .t (by rw [hinv]; simp [hb])
        · refine fR rfl ?_
          refine aL rfl rfl rfl rfl rfl ?_
          refine fM rfl ?_
          have hb : badScope u x = false := hc
          exact rWeak 2 rfl (ih () (by rw [hinv]; simp [hb])) rfl rfl rfl
theorem rType_ok (H : Pr P) (ds : List Def) (ho : DocOk ds) (n : Str) (u : User) (hu : u.scopes.length ≤ 140737488355328) : FnOk P 18 [docV ds, .t (.str n), u.v] ⟨[], 0⟩ { v := .t (.bool (typeP ds n u)) } := by
  have hd := defOk ho n
  refine FnOk.run H.i18 H.mixed rfl rfl ?_
  refine fR rfl ?_
  refine Mid.call (rFind_ok H ds ho.l n) rfl rfl rfl rfl ?_
  refine fM rfl ?_
  refine caG rfl rfl (fun hg => ⟨_, rfl, permit_ok H _ hd.dl hd.d u hu, rfl⟩) rfl rfl ?_
  refine fM rfl ?_
  refine Run.fin rfl (EndOk.go ?_); exact .t (by simp [typeP])
theorem rMay_ok (H : Pr P) (ds : List Def) (ho : DocOk ds) (on f : Str) (u : User) (hu : u.scopes.length ≤ 140737488355328) : FnOk P 16 [docV ds, .t (.str on), .t (.str f), u.v] ⟨[], 0⟩ { v := .t (.bool (mayP ds u on f)) } := by
  have hd := defOk ho on
  have hf := fieldOk hd f
  refine FnOk.run H.i16 H.mixed rfl rfl ?_
  refine fR rfl ?_
  refine Mid.call (rType_ok H ds ho on u hu) rfl rfl rfl rfl ?_
  refine fM rfl ?_
  refine Run.cond rfl rfl (fun h => ?_) (fun h => ?_)
  · refine fR rfl ?_
    refine Run.fin rfl (EndOk.go ?_); exact .t (by simp only [mayP]; rw [if_pos h])
  · have h' : ¬ (!typeP ds on u) = true := by rw [h]; simp
    refine fR rfl ?_
    refine Mid.call (rFind_ok H ds ho.l on) rfl rfl rfl rfl ?_
    refine fM rfl ?_
    refine Mid.call (rFieldOf_ok H _ hd.fl f) rfl rfl rfl rfl ?_
    refine fM rfl ?_
    refine caG rfl rfl (fun hg => ⟨_, rfl, permit_ok H _ hf.l hf.d u hu, rfl⟩) rfl rfl ?_
    refine fM rfl ?_
    refine caG rfl rfl (fun hg => ⟨_, rfl, rType_ok H ds ho _ u hu, rfl⟩) rfl rfl ?_
    refine fM rfl ?_
    refine Run.fin rfl (EndOk.go ?_); exact .t (by simp only [mayP]; rw [if_neg h'])
end Go.GB.C43

/-
  A43E: contracts of chapters 43's functions: filters.
-/
namespace Go.GB.C43
open Go.GB
set_option linter.unusedSimpArgs false
set_option linter.unusedVariables false
set_option maxRecDepth 100000
set_option maxHeartbeats 2000000
variable {P : Program}

theorem cloneHO_ok (H : Pr P) (l : List Hop) (hl : l.length * 32 ≤ 140737488355328) : FnOk P 120 [.t (.lst (l.map Hop.enc))] ⟨[], 0⟩ { v := .own 0 2 (l.map Hop.enc), ob := [(0, .arr l.length)], n := 1 } := by
  refine FnOk.run H.i120 H.mixed rfl rfl ?_
  refine fR rfl ?_
  refine p0 rfl ?_
  refine fM rfl ?_
  refine Run.condU rfl rfl (fun h => ?_) (fun _ => ?_)
  · have hn : l = [] := by
      cases l with
      | nil => rfl
      | cons x r =>
        have := h (Hop.enc x) (by simp)
        simp [Hop.enc] at this
    subst hn
    refine Run.region rfl rfl ?_
    refine Mid.val (v := .nils) (ps := []) rfl rfl trivial rfl ?_
    refine Mid.done0 rfl ?_
    refine Run.weakRet (st' := { env := [(2, .own 0 2 [])], s := ⟨[(0, .arr 0)], 1⟩ }) 0 ?_ rfl rfl rfl (by repeat' (first | exact trivial | exact LeX.t | exact LeX.top | exact LeX.nilOwn (Nat.le_of_ble_eq_true rfl) (Nat.le_of_ble_eq_true rfl) | exact LeX.ownT | exact LeX.nilT | exact LeX.same rfl | exact LeX.tEq (by simp) | exact LeX.ownEq (by simp) (Nat.le_of_ble_eq_true rfl) | exact LeX.tEq (by congr 1 <;> omega) | exact Or.inr ⟨Nat.le_of_ble_eq_true rfl, Nat.le_of_ble_eq_true rfl, rfl⟩ | refine Or.inl ⟨Nat.le_of_ble_eq_true rfl, _, rfl, ?_⟩ | refine LeO.cells ?_ | exact LeO.arr rfl | exact LeO.arr (by simp) | exact LeO.mE (by first | rfl | simp) (by first | exact Or.inl rfl | exact Or.inr rfl) | exact LeO.cE (by first | rfl | simp) | exact LeXs.cE (by first | rfl | simp) | refine LeO.map (by first | rfl | simp) ?_ (by first | exact Or.inl rfl | exact Or.inr rfl) | refine LeXs.cons ?_ ?_ | exact LeXs.nil | refine And.intro ?_ ?_)) (by repeat' (first | exact trivial | exact LeX.t | exact LeX.top | exact LeX.nilOwn (Nat.le_of_ble_eq_true rfl) (Nat.le_of_ble_eq_true rfl) | exact LeX.ownT | exact LeX.nilT | exact LeX.same rfl | exact LeX.tEq (by simp) | exact LeX.ownEq (by simp) (Nat.le_of_ble_eq_true rfl) | exact LeX.tEq (by congr 1 <;> omega) | exact Or.inr ⟨Nat.le_of_ble_eq_true rfl, Nat.le_of_ble_eq_true rfl, rfl⟩ | refine Or.inl ⟨Nat.le_of_ble_eq_true rfl, _, rfl, ?_⟩ | refine LeO.cells ?_ | exact LeO.arr rfl | exact LeO.arr (by simp) | exact LeO.mE (by first | rfl | simp) (by first | exact Or.inl rfl | exact Or.inr rfl) | exact LeO.cE (by first | rfl | simp) | exact LeXs.cE (by first | rfl | simp) | refine LeO.map (by first | rfl | simp) ?_ (by first | exact Or.inl rfl | exact Or.inr rfl) | refine LeXs.cons ?_ ?_ | exact LeXs.nil | refine And.intro ?_ ?_))
    refine EndOk.chg rfl rfl (.le (.same rfl)) ?_
    exact (by repeat' (first | exact trivial | exact LeX.t | exact LeX.top | exact LeX.nilOwn (Nat.le_of_ble_eq_true rfl) (Nat.le_of_ble_eq_true rfl) | exact LeX.ownT | exact LeX.nilT | exact LeX.same rfl | exact LeX.tEq (by simp) | exact LeX.ownEq (by simp) (Nat.le_of_ble_eq_true rfl) | exact LeX.tEq (by congr 1 <;> omega) | exact Or.inr ⟨Nat.le_of_ble_eq_true rfl, Nat.le_of_ble_eq_true rfl, rfl⟩ | refine Or.inl ⟨Nat.le_of_ble_eq_true rfl, _, rfl, ?_⟩ | refine LeO.cells ?_ | exact LeO.arr rfl | exact LeO.arr (by simp) | exact LeO.mE (by first | rfl | simp) (by first | exact Or.inl rfl | exact Or.inr rfl) | exact LeO.cE (by first | rfl | simp) | exact LeXs.cE (by first | rfl | simp) | refine LeO.map (by first | rfl | simp) ?_ (by first | exact Or.inl rfl | exact Or.inr rfl) | refine LeXs.cons ?_ ?_ | exact LeXs.nil | refine And.intro ?_ ?_))
  · refine fR rfl ?_
    refine apN Hop.enc l rfl rfl rfl ?_ (h1 := hl) (h2 := by omega)
    refine fM rfl ?_
    refine Run.fin rfl (EndOk.chg rfl rfl ?_ ?_)
    · exact .le (.same rfl)
    · exact (by repeat' (first | exact trivial | exact LeX.t | exact LeX.top | exact LeX.nilOwn (Nat.le_of_ble_eq_true rfl) (Nat.le_of_ble_eq_true rfl) | exact LeX.ownT | exact LeX.nilT | exact LeX.same rfl | exact LeX.tEq (by simp) | exact LeX.ownEq (by simp) (Nat.le_of_ble_eq_true rfl) | exact LeX.tEq (by congr 1 <;> omega) | exact Or.inr ⟨Nat.le_of_ble_eq_true rfl, Nat.le_of_ble_eq_true rfl, rfl⟩ | refine Or.inl ⟨Nat.le_of_ble_eq_true rfl, _, rfl, ?_⟩ | refine LeO.cells ?_ | exact LeO.arr rfl | exact LeO.arr (by simp) | exact LeO.mE (by first | rfl | simp) (by first | exact Or.inl rfl | exact Or.inr rfl) | exact LeO.cE (by first | rfl | simp) | exact LeXs.cE (by first | rfl | simp) | refine LeO.map (by first | rfl | simp) ?_ (by first | exact Or.inl rfl | exact Or.inr rfl) | refine LeXs.cons ?_ ?_ | exact LeXs.nil | refine And.intro ?_ ?_))

theorem below_ok (H : Pr P) (l : List Hop) (hl : l.length ≤ 100000) (on key : Str) : FnOk P 98 [.t (.lst (l.map Hop.enc)), .t (.str on), .t (.str key)] ⟨[], 0⟩ { v := .t (.lst ((l ++ [(⟨on, key⟩ : Hop)]).map Hop.enc)) } := by
  refine FnOk.run H.i98 H.mixed rfl rfl ?_
  refine fR rfl ?_
  refine Mid.callR [] (cloneHO_ok H l (by omega)) rfl rfl rfl rfl rfl (by repeat' (first | exact trivial | exact rfl | refine And.intro ?_ ?_ | exact (congrArg some (AObj.ren_mE _ _ _ _ _ _)).symm | exact (congrArg some (AObj.ren_cE _ _ _)).symm)) rfl rfl (ob' := [(0, .arr l.length)]) (rfl) rfl rfl ?_
  refine fM rfl ?_
  refine apM Hop.enc l [(⟨on, key⟩ : Hop)] rfl rfl rfl rfl rfl ?_
  refine fM rfl ?_
  refine Run.fin rfl (EndOk.go ?_); exact .own rfl
theorem with_ok (H : Pr P) (l : List Hop) (hl : l.length ≤ 100000) (on key : Str) : FnOk P 101 [.t (.lst (l.map Hop.enc)), .t (.str on), .t (.str key)] ⟨[], 0⟩ { v := .t (.lst ((l ++ [(⟨on, key⟩ : Hop)]).map Hop.enc)) } := by
  refine FnOk.run H.i101 H.mixed rfl rfl ?_
  refine fR rfl ?_
  refine apN Hop.enc l rfl rfl rfl ?_ (h1 := by omega) (h2 := by omega)
  refine fM rfl ?_
  refine apM Hop.enc l [(⟨on, key⟩ : Hop)] rfl rfl rfl rfl rfl ?_
  refine fM rfl ?_
  refine Run.fin rfl (EndOk.go ?_); exact .own rfl

theorem cnt_le {p : Pick} : ∀ {l : List Pick}, p ∈ l → p.cnt ≤ Pick.cnts l
  | [], h => by cases h
  | x :: r, h => by
    simp only [Pick.cnts]
    cases h with
    | head => omega
    | tail _ h => have := cnt_le h; omega

def FilterC (P : Program) (f : Nat) (ds : List Def) (u : User) (l : List Pick) (path : List Hop) : Prop :=
  FnOk P f [docV ds, .t (.lst (l.map Pick.enc)), u.v, .t (.lst (path.map Hop.enc))] ⟨[], 0⟩ { v := .tup [.t (.lst ((Pick.filts (mayP ds u) l path).1.map Pick.enc)), .t (.lst ((Pick.filts (mayP ds u) l path).2.map pE))] }
theorem filter_step (H : Pr P) (ds : List Def) (ho : DocOk ds) (u : User) (hu : u.scopes.length ≤ 140737488355328) (l : List Pick) (path : List Hop) (hO : ∀ p, p ∈ l → p.Ok) (hn : Pick.cnts l + path.length ≤ 10000)
    (hrec : ∀ (l' : List Pick) (path' : List Hop), Pick.cnts l' < Pick.cnts l → (∀ p, p ∈ l' → p.Ok) → Pick.cnts l' + path'.length ≤ 10000 → FilterC P 55 ds u l' path') : FilterC P 55 ds u l path := by
  have hll := Pick.cnts_len l
  unfold FilterC
  refine FnOk.run H.i55 H.mixed rfl rfl ?_
  refine fR rfl ?_
  refine lM rfl rfl rfl ?_
  refine fM rfl ?_
  refine rList l (fun i (B : List Pick × List (List Hop)) => { env := [(3, .t (.lst (path.map Hop.enc))), (4, .ptr 0 0), (6, .ptr 1 0), (10, .own 2 9 (B.1.map Pick.enc)), (11, .own 3 1 (B.2.map pE)), (19, .t (.lst (l.map Pick.enc))), (20, .t (.int .i64 l.length)), (21, .t (.int .i64 i))], s := ⟨[(0, .cells [.t (.lst (ds.map Def.enc))]), (1, .cells [.t (.bool u.known), .t (.lst (u.scopes.map sE))]), (2, .arr B.1.length), (3, .arr B.2.length)], 4⟩ }) (fun r i B => B.1.length ≤ i ∧ B.2.length + Pick.cnts r ≤ Pick.cnts l ∧ Pick.filts (mayP ds u) l path = (B.1 ++ (Pick.filts (mayP ds u) r path).1, B.2 ++ (Pick.filts (mayP ds u) r path).2)) 2 ([], []) rfl ⟨by simp, by simp, by simp⟩ rfl rfl rfl ?_ ?_
  · rintro ⟨B1, B2⟩ ⟨_, _, hB⟩
    refine fR rfl ?_
    refine Run.condF rfl rfl (by simp) ?_
    refine fR rfl ?_
    rw [hB]
    refine Run.fin rfl (EndOk.go ?_); exact .tup2 (.own (by simp [Pick.filts])) (.own (by simp [Pick.filts]))
  · rintro i x r ⟨B1, B2⟩ h1 hi hd ⟨hB1, hB2, hB⟩ ih
    have hxm := List.mem_of_getElem? h1
    have hx := hO x hxm
    have hxc := cnt_le hxm
    have hce := Pick.cnt_eq x
    have hB1' : B1.length ≤ i := hB1
    have hB2' : B2.length + (x.cnt + Pick.cnts r) ≤ Pick.cnts l := hB2
    refine fR rfl ?_
    refine Run.condT rfl rfl (by simp; omega) ?_
    refine fR rfl ?_
    refine Mid.elemMapC (Pick.enc_eq x) rfl rfl rfl h1 rfl rfl ?_
    refine fM rfl ?_
    refine Mid.call (below_ok H path (by omega) x.on x.key) rfl rfl rfl rfl ?_
    refine fM rfl ?_
    refine Mid.call (may_ok H ds ho x.on x.name u hu) rfl rfl rfl rfl ?_
    refine fM rfl ?_
    refine Run.cond rfl rfl (fun hm => ?_) (fun hm => ?_)
    · have hm' : mayP ds u x.on x.name = false := by simpa using hm
      refine fR rfl ?_
      refine apM pE B2 [path ++ [⟨x.on, x.key⟩]] rfl rfl rfl rfl rfl ?_
      refine fM rfl ?_
      refine aL rfl rfl rfl rfl rfl ?_
      refine fM rfl ?_
      exact rWeak 4 rfl (ih (B1, B2 ++ [path ++ [⟨x.on, x.key⟩]]) ⟨by simp; omega, by simp; omega, by rw [hB]; simp [Pick.filts, Pick.filt_eq, hm']⟩) rfl rfl rfl
    · have hm' : mayP ds u x.on x.name = true := by simpa using hm
      have hR := (Pick.filts_gone (mayP ds u) (SizeOf.sizeOf x.picks)).2 x.picks (path ++ [⟨x.on, x.key⟩]) (Nat.le_refl _)
      have hrc := hrec x.picks (path ++ [⟨x.on, x.key⟩]) (by omega) hx.p (by simp; omega)
      unfold FilterC at hrc
      have hB' : Pick.filts (mayP ds u) l path = (B1 ++ [x.withPicks (Pick.filts (mayP ds u) x.picks (path ++ [⟨x.on, x.key⟩])).1] ++ (Pick.filts (mayP ds u) r path).1, B2 ++ (Pick.filts (mayP ds u) x.picks (path ++ [⟨x.on, x.key⟩])).2 ++ (Pick.filts (mayP ds u) r path).2) := by
        rw [hB]; simp [Pick.filts, Pick.filt_eq, hm']
      generalize Pick.filts (mayP ds u) x.picks (path ++ [⟨x.on, x.key⟩]) = G at hR hrc hB'
      refine fR rfl ?_
      refine Mid.call (cloneI_ok H x.ty.wraps hx.t.l) rfl rfl rfl rfl ?_
      refine fM rfl ?_
      refine lM rfl rfl rfl ?_
      refine fM rfl ?_
      refine rList x.args (fun j (C : List Arg) => { env := [(3, .t (.lst (path.map Hop.enc))), (4, .ptr 0 0), (6, .ptr 1 0), (10, .own 2 9 (B1.map Pick.enc)), (11, .own 3 1 (B2.map pE)), (13, .ptr 4 0), (14, .t (.lst ((path ++ [(⟨x.on, x.key⟩ : Hop)]).map Hop.enc))), (15, .ptr 5 0), (19, .t (.lst (l.map Pick.enc))), (20, .t (.int .i64 l.length)), (21, .t (.int .i64 i)), (52, .t (.lst (x.args.map Arg.enc))), (53, .t (.int .i64 x.args.length)), (54, .t (.int .i64 j))], s := ⟨[(0, .cells [.t (.lst (ds.map Def.enc))]), (1, .cells [.t (.bool u.known), .t (.lst (u.scopes.map sE))]), (2, .arr B1.length), (3, .arr B2.length), (4, .cells [.t (.str x.key), .t (.str x.on), .t (.str x.name), .t (.lst (x.args.map Arg.enc)), .t (.str x.ty.name), .t (.lst (x.ty.wraps.map nE)), .t (.str x.label), .t (.int .i64 x.initial), .t (.lst (x.picks.map Pick.enc))]), (5, .cells [.t (.str x.key), .t (.str x.on), .t (.str x.name), .own 6 6 (C.map Arg.enc), .t (.str x.ty.name), .t (.lst (x.ty.wraps.map nE)), .t (.str x.label), .t (.int .i64 x.initial), .t (.lst (x.picks.map Pick.enc))]), (6, .arr C.length)], 7⟩ }) (fun r j C => C.length = j ∧ C ++ r = x.args) 6 [] rfl ⟨rfl, rfl⟩ rfl rfl rfl ?_ ?_
      · rintro C ⟨_, hC⟩
        obtain rfl : C = x.args := by simpa using hC
        refine fR rfl ?_
        refine Run.condF rfl rfl (by simp) ?_
        refine fR rfl ?_
        refine Mid.call (hrc) rfl rfl rfl rfl ?_
        refine fM rfl ?_
        refine apM Pick.enc B1 [(x.withPicks G.1)] rfl (congrArg (fun c => some (T.lst [c])) (Pick.enc_eq (x.withPicks G.1)).symm) rfl rfl rfl ?_ (hl := fun x => (congrArg List.length (Pick.enc_eq x)).trans rfl)
        refine fM rfl ?_
        refine apM pE B2 G.2 rfl rfl rfl rfl rfl ?_ (h1 := by omega) (h2 := by omega)
        refine fM rfl ?_
        refine aL rfl rfl rfl rfl rfl ?_
        refine fM rfl ?_
        exact rWeak 4 rfl (ih (B1 ++ [x.withPicks G.1], B2 ++ G.2) ⟨by simp; omega, by simp; omega, by rw [hB']⟩) rfl rfl rfl
      · rintro j a r' C ha hj hjd ⟨hCl, hC⟩ ihj
        have hal := hx.al
        refine fR rfl ?_
        refine Run.condT rfl rfl (by simp; omega) ?_
        refine fR rfl ?_
        refine Mid.elemMap rfl rfl rfl ha rfl rfl ?_
        refine fM rfl ?_
        refine Mid.call (valCopy_ok H a.val (hx.aa a (List.mem_of_getElem? ha))) rfl rfl rfl rfl ?_
        refine fM rfl ?_
        refine apM Arg.enc C [a] rfl rfl rfl rfl rfl ?_
        refine fM rfl ?_
        refine aL rfl rfl rfl rfl rfl ?_
        refine fM rfl ?_
        exact rWeak 7 rfl (ihj (C ++ [a]) ⟨by simp; omega, by rw [← hC]; simp⟩) rfl rfl rfl
theorem filter_ok (H : Pr P) (ds : List Def) (ho : DocOk ds) (u : User) (hu : u.scopes.length ≤ 140737488355328) : ∀ (k : Nat) (l : List Pick) (path : List Hop), Pick.cnts l < k → (∀ p, p ∈ l → p.Ok) → Pick.cnts l + path.length ≤ 10000 → FilterC P 55 ds u l path
  | 0, l, path, h, _, _ => by omega
  | k + 1, l, path, h, hO, hn => filter_step H ds ho u hu l path hO hn fun l' path' hl' hO' hn' => filter_ok H ds ho u hu k l' path' (by omega) hO' hn'
theorem filterT_ok (H : Pr P) (ds : List Def) (ho : DocOk ds) (u : User) (hu : u.scopes.length ≤ 140737488355328) (l : List Pick) (hO : ∀ p, p ∈ l → p.Ok) (hn : Pick.cnts l ≤ 10000) :
    FnOk P 19 [docV ds, .t (.lst (l.map Pick.enc)), u.v] ⟨[], 0⟩ { v := .tup [.t (.lst ((Pick.filts (mayP ds u) l []).1.map Pick.enc)), .t (.lst ((Pick.filts (mayP ds u) l []).2.map pE))] } := by
  have h := filter_ok H ds ho u hu _ l [] (Nat.lt_succ_self _) hO (by simpa using hn)
  unfold FilterC at h
  refine FnOk.run H.i19 H.mixed rfl rfl ?_
  refine fR rfl ?_
  refine Mid.call (h) rfl rfl rfl rfl ?_
  refine fM rfl ?_
  refine Run.fin rfl (EndOk.go ?_); exact .tup2 (.t rfl) (.t rfl)

theorem rFilter_step (H : Pr P) (ds : List Def) (ho : DocOk ds) (u : User) (hu : u.scopes.length ≤ 140737488355328) (l : List Pick) (path : List Hop) (hO : ∀ p, p ∈ l → p.Ok) (hn : Pick.cnts l + path.length ≤ 10000)
    (hrec : ∀ (l' : List Pick) (path' : List Hop), Pick.cnts l' < Pick.cnts l → (∀ p, p ∈ l' → p.Ok) → Pick.cnts l' + path'.length ≤ 10000 → FilterC P 56 ds u l' path') : FilterC P 56 ds u l path := by
  have hll := Pick.cnts_len l
  unfold FilterC
  refine FnOk.run H.i56 H.mixed rfl rfl ?_
  refine fR rfl ?_
  refine rList l (fun i (B : List Pick × List (List Hop)) => { env := [(1, .t (.lst (l.map Pick.enc))), (3, .t (.lst (path.map Hop.enc))), (4, .ptr 0 0), (6, .ptr 1 0), (10, .own 2 9 (B.1.map Pick.enc)), (11, .own 3 1 (B.2.map pE)), (12, .t (.int .i64 i))], s := ⟨[(0, .cells [.t (.lst (ds.map Def.enc))]), (1, .cells [.t (.bool u.known), .t (.lst (u.scopes.map sE))]), (2, .arr B.1.length), (3, .arr B.2.length)], 4⟩ }) (fun r i B => B.1.length ≤ i ∧ B.2.length + Pick.cnts r ≤ Pick.cnts l ∧ Pick.filts (mayP ds u) l path = (B.1 ++ (Pick.filts (mayP ds u) r path).1, B.2 ++ (Pick.filts (mayP ds u) r path).2)) 2 ([], []) rfl ⟨by simp, by simp, by simp⟩ rfl rfl rfl ?_ ?_
  · rintro ⟨B1, B2⟩ ⟨_, _, hB⟩
    refine fR rfl ?_
    refine lM rfl rfl rfl ?_
    refine fM rfl ?_
    refine Run.condF rfl rfl (by simp) ?_
    refine fR rfl ?_
    rw [hB]
    refine Run.fin rfl (EndOk.go ?_); exact .tup2 (.own (by simp [Pick.filts])) (.own (by simp [Pick.filts]))
  · rintro i x r ⟨B1, B2⟩ h1 hi hd ⟨hB1, hB2, hB⟩ ih
    have hxm := List.mem_of_getElem? h1
    have hx := hO x hxm
    have hxc := cnt_le hxm
    have hce := Pick.cnt_eq x
    have hB1' : B1.length ≤ i := hB1
    have hB2' : B2.length + (x.cnt + Pick.cnts r) ≤ Pick.cnts l := hB2
    refine fR rfl ?_
    refine lM rfl rfl rfl ?_
    refine fM rfl ?_
    refine Run.condT rfl rfl (by simp; omega) ?_
    refine fR rfl ?_
    refine Mid.elemMapC (Pick.enc_eq x) rfl rfl rfl h1 rfl rfl ?_
    refine fM rfl ?_
    refine Mid.call (with_ok H path (by omega) x.on x.key) rfl rfl rfl rfl ?_
    refine fM rfl ?_
    refine Mid.call (rMay_ok H ds ho x.on x.name u hu) rfl rfl rfl rfl ?_
    refine fM rfl ?_
    refine Run.cond rfl rfl (fun hm => ?_) (fun hm => ?_)
    · have hm' : mayP ds u x.on x.name = false := by simpa using hm
      refine fR rfl ?_
      refine apM pE B2 [path ++ [⟨x.on, x.key⟩]] rfl rfl rfl rfl rfl ?_
      refine fM rfl ?_
      refine aL rfl rfl rfl rfl rfl ?_
      refine fM rfl ?_
      exact rWeak 4 rfl (ih (B1, B2 ++ [path ++ [⟨x.on, x.key⟩]]) ⟨by simp; omega, by simp; omega, by rw [hB]; simp [Pick.filts, Pick.filt_eq, hm']⟩) rfl rfl rfl
    · have hm' : mayP ds u x.on x.name = true := by simpa using hm
      have hR := (Pick.filts_gone (mayP ds u) (SizeOf.sizeOf x.picks)).2 x.picks (path ++ [⟨x.on, x.key⟩]) (Nat.le_refl _)
      have hrc := hrec x.picks (path ++ [⟨x.on, x.key⟩]) (by omega) hx.p (by simp; omega)
      unfold FilterC at hrc
      have hB' : Pick.filts (mayP ds u) l path = (B1 ++ [x.withPicks (Pick.filts (mayP ds u) x.picks (path ++ [⟨x.on, x.key⟩])).1] ++ (Pick.filts (mayP ds u) r path).1, B2 ++ (Pick.filts (mayP ds u) x.picks (path ++ [⟨x.on, x.key⟩])).2 ++ (Pick.filts (mayP ds u) r path).2) := by
        rw [hB]; simp [Pick.filts, Pick.filt_eq, hm']
      generalize Pick.filts (mayP ds u) x.picks (path ++ [⟨x.on, x.key⟩]) = G at hR hrc hB'
      refine fR rfl ?_
      refine Mid.call (hrc) rfl rfl rfl rfl ?_
      refine fM rfl ?_
      refine apM Pick.enc B1 [(x.withPicks G.1)] rfl (congrArg (fun c => some (T.lst [c])) (Pick.enc_eq (x.withPicks G.1)).symm) rfl rfl rfl ?_ (hl := fun x => (congrArg List.length (Pick.enc_eq x)).trans rfl)
      refine fM rfl ?_
      refine apM pE B2 G.2 rfl rfl rfl rfl rfl ?_ (h1 := by omega) (h2 := by omega)
      refine fM rfl ?_
      refine aL rfl rfl rfl rfl rfl ?_
      refine fM rfl ?_
      exact rWeak 4 rfl (ih (B1 ++ [x.withPicks G.1], B2 ++ G.2) ⟨by simp; omega, by simp; omega, by rw [hB']⟩) rfl rfl rfl
theorem rFilter_ok (H : Pr P) (ds : List Def) (ho : DocOk ds) (u : User) (hu : u.scopes.length ≤ 140737488355328) : ∀ (k : Nat) (l : List Pick) (path : List Hop), Pick.cnts l < k → (∀ p, p ∈ l → p.Ok) → Pick.cnts l + path.length ≤ 10000 → FilterC P 56 ds u l path
  | 0, l, path, h, _, _ => by omega
  | k + 1, l, path, h, hO, hn => rFilter_step H ds ho u hu l path hO hn fun l' path' hl' hO' hn' => rFilter_ok H ds ho u hu k l' path' (by omega) hO' hn'
theorem rFilterT_ok (H : Pr P) (ds : List Def) (ho : DocOk ds) (u : User) (hu : u.scopes.length ≤ 140737488355328) (l : List Pick) (hO : ∀ p, p ∈ l → p.Ok) (hn : Pick.cnts l ≤ 10000) :
    FnOk P 20 [docV ds, .t (.lst (l.map Pick.enc)), u.v] ⟨[], 0⟩ { v := .tup [.t (.lst ((Pick.filts (mayP ds u) l []).1.map Pick.enc)), .t (.lst ((Pick.filts (mayP ds u) l []).2.map pE))] } := by
  have h := rFilter_ok H ds ho u hu _ l [] (Nat.lt_succ_self _) hO (by simpa using hn)
  unfold FilterC at h
  refine FnOk.run H.i20 H.mixed rfl rfl ?_
  refine fR rfl ?_
  refine Mid.call (h) rfl rfl rfl rfl ?_
  refine fM rfl ?_
  refine Run.fin rfl (EndOk.go ?_); exact .tup2 (.t rfl) (.t rfl)
end Go.GB.C43

/-
  A43F: contracts of chapters 43's functions: fields of values, paths.
-/
namespace Go.GB.C43
open Go.GB
set_option linter.unusedSimpArgs false
set_option linter.unusedVariables false
set_option maxRecDepth 100000
set_option maxHeartbeats 2000000
variable {P : Program}

/-- the item at a key -/
def getK (its : List Val) (k : Str) : List Str → Nat → Option Val
  | [], _ => none
  | x :: r, i => if (x == k) = true then its[i]? else getK its k r (i + 1)
def getV (v : Val) (k : Str) : Option Val := if (v.kind != 6) = true then none else getK v.items k v.keys 0
theorem getK_mem {its : List Val} {k : Str} {x : Val} : ∀ {l : List Str} {i : Nat}, getK its k l i = some x → x ∈ its
  | [], i, h => by simp [getK] at h
  | y :: r, i, h => by
    simp only [getK] at h
    split at h
    · exact List.mem_of_getElem? h
    · exact getK_mem h
theorem getV_mem {v : Val} {k : Str} {x : Val} (h : getV v k = some x) : x ∈ v.items := by
  simp only [getV] at h
  split at h
  · cases h
  · exact getK_mem h
theorem index_getK (its : List Val) (k : Str) : ∀ (l : List Str) (i : Nat), (indexS k l i = -1 ∧ getK its k l i = none) ∨ ∃ j : Nat, indexS k l i = j ∧ getK its k l i = its[j]?
  | [], i => Or.inl ⟨rfl, rfl⟩
  | x :: r, i => by
    simp only [indexS, getK]
    by_cases h : k = x
    · subst h; exact Or.inr ⟨i, by simp, by simp⟩
    · have h1 : ¬ (k == x) = true := by simpa using h
      have h2 : ¬ (x == k) = true := by simpa using fun e => h e.symm
      rw [if_neg h1, if_neg h2]
      exact index_getK its k r (i + 1)

theorem get_ok (H : Pr P) (v : Val) (ho : v.Ok) (k : Str) : FnOk P 84 [v.v, .t (.str k)] ⟨[], 0⟩ { v := .tup [((getV v k).getD Val.zero).v, .t (.bool (getV v k).isSome)] } := by
  have hkl := ho.kl
  have hil := ho.il
  have hidx := index_getK v.items k v.keys 0
  refine FnOk.run H.i84 H.mixed rfl rfl ?_
  refine fR rfl ?_
  refine Mid.call (index_ok H v.keys (by omega) k) rfl rfl rfl rfl ?_
  refine fM rfl ?_
  refine lMG rfl rfl rfl rfl ?_
  refine fM rfl ?_
  refine Run.cond rfl rfl (fun h => ?_) (fun h => ?_)
  · have e : getV v k = none := by
      simp only [getV]
      by_cases hk : (v.kind != 6) = true
      · rw [if_pos hk]
      · rw [if_neg hk]
        rcases hidx with ⟨a, b⟩ | ⟨j, a, b⟩
        · exact b
        · have a' : indexS k v.keys 0 = j := a
          rw [a'] at h
          simp at h hk
          rw [b]
          simp; omega
    rw [e]
    refine fR rfl ?_
    refine Run.fin rfl (EndOk.go ?_); exact .tup2 (.agg (.cons (.t rfl) (.cons (.t rfl) (.cons (.t rfl) (.cons (.nil rfl) (.cons (.nil rfl) .nil)))))) (.t rfl)
  · have h' : v.kind = 6 ∧ 0 ≤ indexS k v.keys 0 ∧ indexS k v.keys 0 < v.items.length := by
      simp at h; omega
    obtain ⟨j, hj⟩ := Int.eq_ofNat_of_zero_le h'.2.1
    have hjl : j < v.items.length := by have := h'.2.2; omega
    have hx : v.items[j]? = some v.items[j] := List.getElem?_eq_getElem hjl
    have e : getV v k = some v.items[j] := by
      simp only [getV, h'.1]
      rcases hidx with ⟨a, b⟩ | ⟨j', a, b⟩
      · have a' : indexS k v.keys 0 = -1 := a
        omega
      · have a' : indexS k v.keys 0 = j' := a
        have : j' = j := by omega
        subst this
        rw [b, hx]; rfl
    have hxo := ho.it _ (List.mem_of_getElem? hx)
    rw [e]
    generalize v.items[j] = x at hx hxo
    simp only [hj]
    refine fR rfl ?_
    refine Mid.elemMapC (Val.enc_eq x) rfl rfl rfl hx rfl rfl ?_
    refine fM rfl ?_
    refine Mid.call (valCopy_ok H x hxo) rfl rfl rfl rfl ?_
    refine fM rfl ?_
    refine Run.fin rfl (EndOk.go ?_); exact .tup2 (.le (.same rfl)) (.t rfl)

theorem rCopies_ok (H : Pr P) (l : List Val) (hl : l.length * 80 ≤ 140737488355328) (hc : ∀ x, x ∈ l → FnOk P 116 [x.v] ⟨[], 0⟩ { v := x.v }) : FnOk P 132 [.t (.lst (l.map Val.enc))] ⟨[], 0⟩ { v := .t (.lst (l.map Val.enc)) } := by
  refine FnOk.run H.i132 H.mixed rfl rfl ?_
  refine fR rfl ?_
  refine rList l (fun i (B : List Val) => { env := [(0, .t (.lst (l.map Val.enc))), (3, .own 0 5 (B.map Val.enc)), (4, .t (.int .i64 i))], s := ⟨[(0, .arr B.length)], 1⟩ }) (fun r i B => B.length = i ∧ B ++ r = l) 0 [] rfl ⟨rfl, rfl⟩ rfl rfl rfl ?_ ?_
  · rintro B ⟨_, hB⟩
    refine fR rfl ?_
    refine lM rfl rfl rfl ?_
    refine fM rfl ?_
    refine Run.condF rfl rfl (by simp) ?_
    refine fR rfl ?_
    refine Run.fin rfl (EndOk.go ?_); exact .own (by rw [← hB]; simp)
  · rintro i x r B h1 hi hd ⟨hBl, hB⟩ ih
    refine fR rfl ?_
    refine lM rfl rfl rfl ?_
    refine fM rfl ?_
    refine Run.condT rfl rfl (by simp; omega) ?_
    refine fR rfl ?_
    refine Mid.elemMapC (Val.enc_eq x) rfl rfl rfl h1 rfl rfl ?_
    refine fM rfl ?_
    refine Mid.call (hc x (List.mem_of_getElem? h1)) rfl rfl rfl rfl ?_
    refine fM rfl ?_
    refine apM Val.enc B [x] rfl (congrArg (fun c => some (T.lst [c])) (Val.enc_eq x).symm) rfl rfl rfl ?_ (hl := fun x => (congrArg List.length (Val.enc_eq x)).trans rfl)
    refine fM rfl ?_
    refine aL rfl rfl rfl rfl rfl ?_
    refine fM rfl ?_
    exact rWeak 1 rfl (ih (B ++ [x]) ⟨by simp; omega, by rw [← hB]; simp⟩) rfl rfl rfl
theorem rCopy_ok (H : Pr P) : ∀ (k : Nat) (v : Val), SizeOf.sizeOf v ≤ k → v.Ok → FnOk P 116 [v.v] ⟨[], 0⟩ { v := v.v }
  | 0, v, h, _ => by cases v; simp at h
  | k + 1, v, h, ho => by
    refine FnOk.run H.i116 H.mixed rfl rfl ?_
    refine fR rfl ?_
    refine Mid.call (rCopies_ok H v.items ho.il (fun x hx => rCopy_ok H k x (by have := Val.size_items v hx; omega) (ho.it x hx))) rfl rfl rfl rfl ?_
    refine fM rfl ?_
    refine apN sE v.keys rfl rfl rfl ?_ (h1 := ho.kl) (h2 := by have := ho.kl; omega)
    refine fM rfl ?_
    refine Run.fin rfl (EndOk.go ?_); exact .agg (.cons (.t rfl) (.cons (.t rfl) (.cons (.t rfl) (.cons (.t rfl) (.cons (.own rfl) .nil)))))
theorem rValCopy_ok (H : Pr P) (v : Val) (ho : v.Ok) : FnOk P 116 [v.v] ⟨[], 0⟩ { v := v.v } := rCopy_ok H _ v (Nat.le_refl _) ho

theorem rGet_ok (H : Pr P) (v : Val) (ho : v.Ok) (k : Str) : FnOk P 86 [v.v, .t (.str k)] ⟨[], 0⟩ { v := .tup [((getV v k).getD Val.zero).v, .t (.bool (getV v k).isSome)] } := by
  have hkl := ho.kl
  have hil := ho.il
  refine FnOk.run H.i86 H.mixed rfl rfl ?_
  refine fR rfl ?_
  refine Run.cond rfl rfl (fun h => ?_) (fun h => ?_)
  · have e : getV v k = none := by simp only [getV]; rw [if_pos h]
    rw [e]
    refine fR rfl ?_
    refine Run.fin rfl (EndOk.go ?_); exact .tup2 (.agg (.cons (.t rfl) (.cons (.t rfl) (.cons (.t rfl) (.cons (.nil rfl) (.cons (.nil rfl) .nil)))))) (.t rfl)
  · have h' : ¬ (v.kind != 6) = true := by rw [h]; simp
    have e : getV v k = getK v.items k v.keys 0 := by simp only [getV]; rw [if_neg h']
    rw [e]
    refine fR rfl ?_
    refine rList v.keys (fun i (_ : Unit) => { env := [(1, .t (.str k)), (2, .ptr 0 0), (4, .ptr 1 0), (6, .t (.int .i64 i))], s := ⟨[(0, .cells [.t (.int .i64 v.kind), .t (.int .i64 v.int), .t (.str v.text), .t (.lst (v.items.map Val.enc)), .t (.lst (v.keys.map sE))]), (1, .cells [.t (.int .i64 0), .t (.int .i64 0), .t (.str []), .nils, .nils])], 2⟩ }) (fun r i _ => getK v.items k v.keys 0 = getK v.items k r i) 2 () rfl rfl rfl rfl rfl ?_ ?_
    · intro _ hinv
      refine fR rfl ?_
      refine lM rfl rfl rfl ?_
      refine fM rfl ?_
      refine Run.condF rfl rfl (by simp) ?_
      refine fR rfl ?_
      have e : getK v.items k v.keys 0 = none := by rw [hinv]; rfl
      rw [e]
      refine Run.fin rfl (EndOk.go ?_); exact .tup2 (.agg (.cons (.t rfl) (.cons (.t rfl) (.cons (.t rfl) (.cons (.nil rfl) (.cons (.nil rfl) .nil)))))) (.t rfl)
    · intro i s r _ h1 hi hd hinv ih
      refine fR rfl ?_
      refine lM rfl rfl rfl ?_
      refine fM rfl ?_
      refine Run.condT rfl rfl (by simp; omega) ?_
      refine fR rfl ?_
      refine Mid.elemMap rfl rfl rfl h1 rfl rfl ?_
      refine fM rfl ?_
      refine Run.cond rfl rfl (fun hs => ?_) (fun hs => ?_)
      · have e2 : getK v.items k v.keys 0 = v.items[i]? := by rw [hinv]; simp only [getK]; rw [if_pos hs]
        rw [e2]
        refine fR rfl ?_
        refine lM rfl rfl rfl ?_
        refine fM rfl ?_
        refine Run.cond rfl rfl (fun hb => ?_) (fun hb => ?_)
        · have hb' : v.items.length ≤ i := by simp at hb; omega
          rw [List.getElem?_eq_none hb']
          refine fR rfl ?_
          refine Run.fin rfl (EndOk.go ?_); exact .tup2 (.agg (.cons (.t rfl) (.cons (.t rfl) (.cons (.t rfl) (.cons (.nil rfl) (.cons (.nil rfl) .nil)))))) (.t rfl)
        · have hb' : i < v.items.length := by simp at hb; omega
          have hx : v.items[i]? = some v.items[i] := List.getElem?_eq_getElem hb'
          have hxo := ho.it _ (List.mem_of_getElem? hx)
          rw [hx]
          generalize v.items[i] = x at hx hxo
          refine fR rfl ?_
          refine Mid.elemMapC (Val.enc_eq x) rfl rfl rfl hx rfl rfl ?_
          refine fM rfl ?_
          refine Mid.call (rValCopy_ok H x hxo) rfl rfl rfl rfl ?_
          refine fM rfl ?_
          refine Run.fin rfl (EndOk.go ?_); exact .tup2 (.le (.same rfl)) (.t rfl)
      · have hs' : ¬ (s == k) = true := by rw [hs]; simp
        refine fR rfl ?_
        refine aL rfl rfl rfl rfl rfl ?_
        refine fM rfl ?_
        exact rWeak 2 rfl (ih () (by rw [hinv]; simp only [getK]; rw [if_neg hs'])) rfl rfl rfl
end Go.GB.C43

/-
  A43G: contracts of chapters 43's functions: paths, marks.
-/
namespace Go.GB.C43
open Go.GB
set_option linter.unusedSimpArgs false
set_option linter.unusedVariables false
set_option maxRecDepth 100000
set_option maxHeartbeats 2000000
variable {P : Program}

instance hopDec : DecidableEq Hop := fun a b =>
  if h : a.on = b.on ∧ a.key = b.key then .isTrue (by cases a; cases b; simp at h; simp [h]) else .isFalse (fun e => h (by rw [e]; simp))
theorem hop_eq (a b : Hop) : keyEq a.enc b.enc = decide (a = b) := by
  obtain ⟨a1, a2⟩ := a
  obtain ⟨b1, b2⟩ := b
  rw [Bool.eq_iff_iff]
  simp [Hop.enc, keyEq, T.eqb]
theorem equalH_ok (H : Pr P) (a b : List Hop) (ha : a.length ≤ 140737488355328) : FnOk P 128 [.t (.lst (a.map Hop.enc)), .t (.lst (b.map Hop.enc))] ⟨[], 0⟩ { v := .t (.bool (decide (a = b))) } := by
  refine FnOk.run H.i128 H.mixed rfl rfl ?_
  refine fR rfl ?_
  refine lM rfl rfl rfl ?_
  refine fM rfl ?_
  refine lM rfl rfl rfl ?_
  refine fM rfl ?_
  refine Run.cond rfl rfl (fun h => ?_) (fun h => ?_)
  · refine fR rfl ?_
    refine Run.fin rfl (EndOk.go ?_)
    have : ¬ a = b := by rintro rfl; simp at h
    exact .t (by simp [this])
  · refine fR rfl ?_
    refine lM rfl rfl rfl ?_
    refine fM rfl ?_
    have hl : a.length = b.length := by
      have : ((a.length : Nat) : Int) = (b.length : Nat) := by simpa using h
      omega
    refine rList a (fun i (_ : Unit) => { env := [(0, .t (.lst (a.map Hop.enc))), (1, .t (.lst (b.map Hop.enc))), (12, .t (.int .i64 a.length)), (13, .t (.int .i64 i))], s := ⟨[], 0⟩ }) (fun r i _ => (a = b) = (r = b.drop i)) 0 () rfl (by simp) rfl rfl rfl ?_ ?_
    · intro _ hinv
      refine fR rfl ?_
      refine Run.condF rfl rfl (by simp) ?_
      refine fR rfl ?_
      have : a = b := by rw [hinv]; simp [hl]
      refine Run.fin rfl (EndOk.go ?_); exact .t (by simp [this])
    · intro i x r _ h1 hi hd hinv ih
      have h2 : b[i]? = some (b[i]'(by omega)) := by simp
      have hdb : b.drop i = b[i]'(by omega) :: b.drop (i + 1) := List.drop_eq_getElem_cons (by omega)
      generalize b[i]'(by omega) = y at h2 hdb
      refine fR rfl ?_
      refine Run.condT rfl rfl (by simp; omega) ?_
      refine fR rfl ?_
      refine Mid.elemMap rfl rfl rfl h1 rfl rfl ?_
      refine fM rfl ?_
      refine Mid.elemMap rfl rfl rfl h2 rfl rfl ?_
      refine fM rfl ?_
      refine p0 rfl ?_
      refine fM rfl ?_
      refine Run.cond rfl rfl (fun hc => ?_) (fun hc => ?_)
      · refine fR rfl ?_
        have hne : ¬ x = y := by
          have hc' : (!(keyEq x.enc y.enc)) = true := hc
          rw [hop_eq] at hc'; simpa using hc'
        have : ¬ a = b := by rw [hinv, hdb]; exact fun e => hne (List.cons.inj e).1
        refine Run.fin rfl (EndOk.go ?_); exact .t (by simp [this])
      · refine fR rfl ?_
        refine aL rfl rfl rfl rfl rfl ?_
        refine fM rfl ?_
        have he : x = y := by
          have hc' : (!(keyEq x.enc y.enc)) = false := hc
          rw [hop_eq] at hc'; simpa using hc'
        exact rWeak 0 rfl (ih () (by rw [hinv, hdb]; exact propext ⟨fun e => (List.cons.inj e).2, fun e => by rw [he, e]⟩)) rfl rfl rfl
theorem gone1_ok (H : Pr P) (p path : List Hop) (hp : p.length ≤ 140737488355328) : FnOk P 127 [.t (.lst (p.map Hop.enc)), .ptr 0 0] ⟨[(0, .cells [.t (.lst (path.map Hop.enc))])], 1⟩ { v := .t (.bool (decide (p = path))), rd := true } := by
  refine FnOk.run H.i127 H.mixed rfl rfl ?_
  refine fR rfl ?_
  refine Mid.call (equalH_ok H p path hp) rfl rfl rfl rfl ?_
  refine fM rfl ?_
  refine Run.fin rfl (EndOk.sameX rfl rfl rfl (by first | exact rfl | exact nSto_bd | exact tSto_bd) (.t (rfl)))
def idxP (q : List Hop → Bool) : Int → List (List Hop) → Int
  | _, [] => -1
  | i, b :: l => if q b = true then i else idxP q (i + 1) l
theorem idxP_ge (q : List Hop → Bool) : ∀ (l : List (List Hop)) (i : Int), 0 ≤ i → decide (idxP q i l ≥ 0) = l.any q
  | [], i, h => by simp [idxP]
  | b :: l, i, h => by
    have ih := idxP_ge q l (i + 1) (by omega)
    by_cases hp : q b = true
    · simp [idxP, hp, h]
    · have e : idxP q i (b :: l) = idxP q (i + 1) l := by simp only [idxP]; rw [if_neg hp]
      rw [e, ih]; simp [hp]
structure PathsOk (ps : List (List Hop)) : Prop where
  l : ps.length ≤ 140737488355328
  p : ∀ x, x ∈ ps → x.length ≤ 140737488355328
theorem indexFuncH_ok (H : Pr P) (path : List Hop) (l : List (List Hop)) (hl : PathsOk l) : FnOk P 133 [.t (.lst (l.map pE)), .fn 127 [(0, 0)]] ⟨[(0, .cells [.t (.lst (path.map Hop.enc))])], 1⟩ { v := .t (.int .i64 (idxP (fun p => decide (p = path)) 0 l)), rd := true } := by
  have hll := hl.l
  refine FnOk.run H.i133 H.mixed rfl rfl ?_
  refine fR rfl ?_
  refine lM rfl rfl rfl ?_
  refine fM rfl ?_
  refine rList l (fun i (_ : Unit) => { env := [(0, .t (.lst (l.map pE))), (1, .fn 127 [(0, 0)]), (7, .t (.int .i64 l.length)), (8, .t (.int .i64 i))], s := ⟨[(0, .cells [.t (.lst (path.map Hop.enc))])], 1⟩ }) (fun r i _ => idxP (fun p => decide (p = path)) 0 l = idxP (fun p => decide (p = path)) i r) 1 () rfl rfl rfl rfl rfl ?_ ?_
  · intro _ hinv
    refine fR rfl ?_
    refine Run.condF rfl rfl (by simp) ?_
    refine fR rfl ?_
    refine Run.fin rfl (EndOk.sameX rfl rfl rfl (by first | exact rfl | exact nSto_bd | exact tSto_bd) (.t ((by rw [hinv]; rfl))))
  · intro i x r _ h1 hi hd hinv ih
    refine fR rfl ?_
    refine Run.condT rfl rfl (by simp; omega) ?_
    refine fR rfl ?_
    refine Mid.elemMap rfl rfl rfl h1 rfl rfl ?_
    refine fM rfl ?_
    refine Mid.callvS rfl (gone1_ok H x path (hl.p x (List.mem_of_getElem? h1))) rfl rfl rfl rfl ?_
    refine fM rfl ?_
    refine Run.cond rfl rfl (fun hc => ?_) (fun hc => ?_)
    · refine fR rfl ?_
      refine Run.fin rfl (EndOk.sameX rfl rfl rfl (by first | exact rfl | exact nSto_bd | exact tSto_bd) (.t ((by rw [hinv]; simp only [idxP]; rw [if_pos hc]))))
    · refine fR rfl ?_
      refine aL rfl rfl rfl rfl rfl ?_
      refine fM rfl ?_
      have h' : ¬ decide (x = path) = true := by rw [hc]; simp
      exact rWeak 1 rfl (ih () (by rw [hinv]; simp only [idxP]; rw [if_neg h']; rfl)) rfl rfl rfl
theorem containsFuncH_ok (H : Pr P) (path : List Hop) (l : List (List Hop)) (hl : PathsOk l) : FnOk P 126 [.t (.lst (l.map pE)), .fn 127 [(0, 0)]] ⟨[(0, .cells [.t (.lst (path.map Hop.enc))])], 1⟩ { v := .t (.bool (decide (path ∈ l))), rd := true } := by
  refine FnOk.run H.i126 H.mixed rfl rfl ?_
  refine fR rfl ?_
  refine Mid.callS (indexFuncH_ok H path l hl) rfl rfl (by first | exact rfl | exact nSto_bd | exact tSto_bd) rfl ?_
  refine fM rfl ?_
  refine Run.fin rfl (EndOk.sameX rfl rfl rfl (by first | exact rfl | exact nSto_bd | exact tSto_bd) (.t ((by
    rw [show decide (path ∈ l) = l.any (fun p => decide (p = path)) by rw [Bool.eq_iff_iff]; simp, ← idxP_ge _ l 0 (by omega)]))))
theorem gone_ok (H : Pr P) (path : List Hop) (l : List (List Hop)) (hl : PathsOk l) : FnOk P 104 [.agg [.t (.lst (l.map pE))], .t (.lst (path.map Hop.enc))] ⟨[], 0⟩ { v := .t (.bool (decide (path ∈ l))) } := by
  refine FnOk.run H.i104 H.mixed rfl rfl ?_
  refine fR rfl ?_
  refine Mid.callRd [1] (containsFuncH_ok H path l hl) rfl rfl rfl rfl (by simp [stoBd]; simp [AObj.bd, V.bds, V.bd]) (by repeat' (first | exact trivial | exact rfl | refine And.intro ?_ ?_ | exact (congrArg some (AObj.ren_mE _ _ _ _ _ _)).symm | exact (congrArg some (AObj.ren_cE _ _ _)).symm)) rfl ?_
  refine fM rfl ?_
  refine Run.fin rfl (EndOk.go ?_); exact .t rfl

def listedP (path : List Hop) : List (List Hop) → Bool
  | [] => false
  | p :: r => if decide (p = path) = true then true else listedP path r
theorem listedP_eq (path : List Hop) : ∀ l : List (List Hop), listedP path l = decide (path ∈ l)
  | [] => by simp [listedP]
  | p :: r => by
    simp only [listedP, listedP_eq path r]
    by_cases h : p = path
    · simp [h]
    · have : ¬ path = p := fun e => h e.symm
      simp [h, this]
theorem listed_ok (H : Pr P) (path : List Hop) (hp : path.length ≤ 140737488355328) (l : List (List Hop)) (hl : PathsOk l) : FnOk P 105 [.t (.lst (l.map pE)), .t (.lst (path.map Hop.enc))] ⟨[], 0⟩ { v := .t (.bool (decide (path ∈ l))) } := by
  rw [← listedP_eq]
  have hll := hl.l
  refine FnOk.run H.i105 H.mixed rfl rfl ?_
  refine fR rfl ?_
  refine rList l (fun i (_ : Unit) => { env := [(0, .t (.lst (l.map pE))), (1, .t (.lst (path.map Hop.enc))), (5, .t (.int .i64 i))], s := ⟨[], 0⟩ }) (fun r i _ => listedP path l = listedP path r) 0 () rfl rfl rfl rfl rfl ?_ ?_
  · intro _ hinv
    refine fR rfl ?_
    refine lM rfl rfl rfl ?_
    refine fM rfl ?_
    refine Run.condF rfl rfl (by simp) ?_
    refine fR rfl ?_
    refine Run.fin rfl (EndOk.go ?_); exact .t (by rw [hinv]; rfl)
  · intro i p r _ h1 hi hd hinv ih
    refine fR rfl ?_
    refine lM rfl rfl rfl ?_
    refine fM rfl ?_
    refine Run.condT rfl rfl (by simp; omega) ?_
    refine fR rfl ?_
    refine Mid.elemMap rfl rfl rfl h1 rfl rfl ?_
    refine fM rfl ?_
    refine lM rfl rfl rfl ?_
    refine fM rfl ?_
    refine lM rfl rfl rfl ?_
    refine fM rfl ?_
    refine rLoopM (β := Nat × Bool) (fun b => { env := [(0, .t (.lst (l.map pE))), (1, .t (.lst (path.map Hop.enc))), (5, .t (.int .i64 i)), (6, .t (.bool b.2)), (7, .t (.int .i64 b.1))], s := ⟨[], 0⟩ })
      (fun b => b.1 ≤ path.length ∧ (b.2 = true → p.length = path.length ∧ p.take b.1 = path.take b.1) ∧ (b.2 = false → ¬ p = path)) (fun b => path.length + 1 - b.1) 0 (0, (((p.length : Nat) : Int) == (path.length : Nat))) rfl ⟨Nat.zero_le _, fun e => ⟨by simp at e; omega, by simp⟩, fun e => by rintro rfl; simp at e⟩ rfl rfl rfl ?_
    rintro ⟨k, b⟩ ⟨hk, hb1, hb2⟩ ihk
    simp only at hk hb1 hb2
    refine fR rfl ?_
    refine lM rfl rfl rfl ?_
    refine fM rfl ?_
    refine Run.cond rfl rfl (fun hc => ?_) (fun hc => ?_)
    · have hc' : k < path.length ∧ b = true := by simp at hc; exact ⟨by omega, hc.2⟩
      obtain ⟨hkl, rfl⟩ := hc'
      obtain ⟨e1, e2⟩ := hb1 rfl
      have hpk : p[k]? = some (p[k]'(by omega)) := by simp
      have hqk : path[k]? = some (path[k]'(by omega)) := by simp
      have htp : p.take (k + 1) = p.take k ++ [p[k]'(by omega)] := by rw [List.take_add_one, hpk]; rfl
      have htq : path.take (k + 1) = path.take k ++ [path[k]'(by omega)] := by rw [List.take_add_one, hqk]; rfl
      generalize p[k]'(by omega) = x at hpk htp
      generalize path[k]'(by omega) = y at hqk htq
      refine fR rfl ?_
      refine Mid.elemMap rfl rfl rfl h1 rfl rfl ?_
      refine fM rfl ?_
      refine Mid.elemMap rfl rfl rfl hpk rfl rfl ?_
      refine fM rfl ?_
      refine Mid.elemMap rfl rfl rfl hqk rfl rfl ?_
      refine fM rfl ?_
      refine p0 rfl ?_
      refine fM rfl ?_
      refine aL rfl rfl rfl rfl rfl ?_
      refine fM rfl ?_
      exact rWeak 0 rfl (ihk (k + 1, keyEq x.enc y.enc) (by simp only; omega) ⟨by simp only; omega, fun e => ⟨e1, by rw [hop_eq] at e; simp at e; rw [htp, htq, e2, e]⟩, fun e => by
        intro hpp
        rw [hop_eq] at e
        simp at e
        rw [hpp, hqk] at hpk
        cases hpk; exact e rfl⟩) rfl rfl rfl
    · have hc' : ¬ (k < path.length ∧ b = true) := by
        rintro ⟨h1, rfl⟩; simp at hc; omega
      refine fR rfl ?_
      refine Run.cond rfl rfl (fun hb => ?_) (fun hb => ?_)
      · have hb' : b = true := hb
        obtain ⟨e1, e2⟩ := hb1 hb'
        have hk' : k = path.length := by
          rcases Nat.lt_or_ge k path.length with h | h
          · exact absurd ⟨h, hb'⟩ hc'
          · omega
        have hpp : p = path := by
          rw [hk', List.take_length] at e2
          rw [← e2, List.take_of_length_le (by omega)]
        refine fR rfl ?_
        refine Run.fin rfl (EndOk.go ?_); exact .t (by rw [hinv]; simp [listedP, hpp])
      · have hb' : b = false := hb
        have hpp := hb2 hb'
        refine fR rfl ?_
        refine aL rfl rfl rfl rfl rfl ?_
        refine fM rfl ?_
        exact rWeak 0 rfl (ih () (by rw [hinv]; simp [listedP, hpp])) rfl rfl rfl
end Go.GB.C43

/-
  A43H: contracts of chapters 43's functions: marks.
-/
namespace Go.GB.C43
open Go.GB
set_option linter.unusedSimpArgs false
set_option linter.unusedVariables false
set_option maxRecDepth 100000
set_option maxHeartbeats 4000000
variable {P : Program}

def tS : Str := [95, 95, 116]
def forbS : Str := [102, 111, 114, 98, 105, 100, 100, 101, 110]
def textV (s : Str) : Val := .mk 3 0 s [] []
def failV : Val := .mk 9 0 forbS [] []
theorem text_ok (H : Pr P) (s : Str) : FnOk P 59 [.t (.str s)] ⟨[], 0⟩ { v := (textV s).v } := by
  refine FnOk.run H.i59 H.mixed rfl rfl ?_
  refine fR rfl ?_
  refine Run.fin rfl (EndOk.go ?_); exact .agg (.cons (.t rfl) (.cons (.t rfl) (.cons (.t rfl) (.cons (.nil rfl) (.cons (.nil rfl) .nil)))))

/-- what is laid for a pick -/
def markItem (paths : List (List Hop)) (rec : List Pick → Val → List Hop → Val) (v : Val) (path : List Hop) (p : Pick) : Val :=
  if decide (path ++ [⟨p.on, p.key⟩] ∈ paths) = true then failV else
  match getV v p.key with
  | some x => rec p.picks x (path ++ [⟨p.on, p.key⟩])
  | none => Val.zero
def objOf (paths : List (List Hop)) (rec : List Pick → Val → List Hop → Val) (v : Val) (path : List Hop) (t : Str) (l : List Pick) : Val :=
  .mk 6 0 [] (textV t :: (l.filter fun p => p.on == t).map (markItem paths rec v path)) (tS :: (l.filter fun p => p.on == t).map Pick.key)
def markF (paths : List (List Hop)) : Nat → List Pick → Val → List Hop → Val
  | 0, _, v, _ => v
  | k + 1, l, v, path =>
    if (v.kind == 5) = true then .mk 5 0 [] (v.items.map fun x => markF paths k l x path) []
    else match getV v tS with
      | none => v
      | some t => if (t.kind != 3) = true then v else objOf paths (markF paths k) v path t.text l

theorem getV_ok {v : Val} (ho : v.Ok) {k : Str} {x : Val} (h : getV v k = some x) : x.Ok := ho.it x (getV_mem h)

def MarkC (P : Program) (paths : List (List Hop)) (k : Nat) (l : List Pick) (v : Val) (path : List Hop) : Prop :=
  FnOk P 60 [.agg [.t (.lst (paths.map pE))], .t (.lst (l.map Pick.enc)), v.v, .t (.lst (path.map Hop.enc))] ⟨[], 0⟩ { v := (markF paths k l v path).v }

theorem mark_step (H : Pr P) (paths : List (List Hop)) (hP : PathsOk paths) (k : Nat) (l : List Pick) (v : Val) (path : List Hop) (hO : ∀ p, p ∈ l → p.Ok) (hn : Pick.cnts l + path.length ≤ 10000) (ho : v.Ok)
    (hrec : ∀ (l' : List Pick) (x : Val) (path' : List Hop), x ∈ v.items → (∀ p, p ∈ l' → p.Ok) → Pick.cnts l' + path'.length ≤ 10000 → MarkC P paths k l' x path') : MarkC P paths (k + 1) l v path := by
  have hll := Pick.cnts_len l
  have hil := ho.il
  unfold MarkC
  refine FnOk.run H.i60 H.mixed rfl rfl ?_
  refine fR rfl ?_
  refine Run.cond rfl rfl (fun h5 => ?_) (fun h5 => ?_)
  · have e5 : markF paths (k + 1) l v path = .mk 5 0 [] (v.items.map fun x => markF paths k l x path) [] := by simp only [markF]; rw [if_pos h5]
    rw [e5]
    refine fR rfl ?_
    refine lM rfl rfl rfl ?_
    refine fM rfl ?_
    refine rList v.items (fun i (B : List Val) => { env := [(1, .t (.lst (l.map Pick.enc))), (3, .t (.lst (path.map Hop.enc))), (4, .ptr 0 0), (8, .ptr 2 0), (9, .ptr 3 0), (26, .t (.lst (v.items.map Val.enc))), (27, .t (.int .i64 v.items.length)), (28, .t (.int .i64 i))], s := ⟨[(0, .cells [.t (.lst (paths.map pE))]), (2, .cells [.t (.int .i64 0), .t (.int .i64 0), .t (.str []), .nils, .nils]), (3, .cells [.t (.int .i64 5), .t (.int .i64 0), .t (.str []), .own 4 5 (B.map Val.enc), .nils]), (4, .arr B.length)], 5⟩ }) (fun r i B => B.length = i ∧ v.items.map (fun x => markF paths k l x path) = B ++ r.map (fun x => markF paths k l x path)) 4 [] rfl ⟨rfl, rfl⟩ rfl rfl rfl ?_ ?_
    · rintro B ⟨_, hB⟩
      have hB' : v.items.map (fun x => markF paths k l x path) = B := by rw [hB]; simp
      rw [hB']
      refine fR rfl ?_
      refine Run.condF rfl rfl (by simp) ?_
      refine fR rfl ?_
      refine Run.fin rfl (EndOk.go ?_); exact .agg (.cons (.t rfl) (.cons (.t rfl) (.cons (.t rfl) (.cons (.own rfl) (.cons (.nil rfl) .nil)))))
    · rintro i x r B h1 hi hd ⟨hBl, hB⟩ ih
      have hc := hrec l x path (List.mem_of_getElem? h1) hO hn
      unfold MarkC at hc
      refine fR rfl ?_
      refine Run.condT rfl rfl (by simp; omega) ?_
      refine fR rfl ?_
      refine Mid.elemMapC (Val.enc_eq x) rfl rfl rfl h1 rfl rfl ?_
      refine fM rfl ?_
      refine Mid.call (hc) rfl rfl rfl rfl ?_
      refine fM rfl ?_
      refine apM Val.enc B [(markF paths k l x path)] rfl (congrArg (fun c => some (T.lst [c])) (Val.enc_eq (markF paths k l x path)).symm) rfl rfl rfl ?_ (hl := fun x => (congrArg List.length (Val.enc_eq x)).trans rfl)
      refine fM rfl ?_
      refine aL rfl rfl rfl rfl rfl ?_
      refine fM rfl ?_
      exact rWeak 5 rfl (ih (B ++ [markF paths k l x path]) ⟨by simp; omega, by rw [hB]; simp⟩) rfl rfl rfl
  · have h5' : ¬ (v.kind == 5) = true := by rw [h5]; simp
    refine fR rfl ?_
    refine Mid.call (get_ok H v ho tS) rfl rfl rfl rfl ?_
    refine fM rfl ?_
    refine Run.cond rfl rfl (fun hz => ?_) (fun hz => ?_)
    · have e : markF paths (k + 1) l v path = v := by
        simp only [markF]; rw [if_neg h5']
        cases hg : getV v tS with
        | none => rfl
        | some t =>
          simp only
          rw [hg] at hz
          by_cases hk : (t.kind != 3) = true
          · rw [if_pos hk]
          · have h6 : v.kind = 6 := by
              simp only [getV] at hg
              split at hg
              · cases hg
              · simp_all
            simp [h6] at hz hk
            exact absurd hk hz
      rw [e]
      refine fR rfl ?_
      refine Mid.call (valCopy_ok H v ho) rfl rfl rfl rfl ?_
      refine fM rfl ?_
      refine Run.fin rfl (EndOk.go ?_); exact .le (.same rfl)
    · obtain ⟨t, hg⟩ : ∃ t, getV v tS = some t := by
        cases hg : getV v tS with
        | none => rw [hg] at hz; simp at hz
        | some t => exact ⟨t, rfl⟩
      have hk : ¬ (t.kind != 3) = true := by
        rw [hg] at hz; simp at hz; simp [hz]
      have e : markF paths (k + 1) l v path = objOf paths (markF paths k) v path t.text l := by
        simp only [markF]; rw [if_neg h5', hg]; simp only; rw [if_neg hk]
      rw [e]
      have hgd : (getV v tS).getD Val.zero = t := by rw [hg]; rfl
      simp only [hgd]
      refine fR rfl ?_
      refine Mid.call (text_ok H t.text) rfl rfl rfl rfl ?_
      refine fM rfl ?_
      refine lM rfl rfl rfl ?_
      refine fM rfl ?_
      refine rList l (fun i (B : List Val × List Str) => { env := [(3, .t (.lst (path.map Hop.enc))), (4, .ptr 0 0), (6, .ptr 1 0), (8, .ptr 2 0), (12, .ptr 3 0), (14, .ptr 6 0), (69, .t (.lst (l.map Pick.enc))), (70, .t (.int .i64 l.length)), (71, .t (.int .i64 i))], s := ⟨[(0, .cells [.t (.lst (paths.map pE))]), (1, .cells [.t (.int .i64 v.kind), .t (.int .i64 v.int), .t (.str v.text), .t (.lst (v.items.map Val.enc)), .t (.lst (v.keys.map sE))]), (2, .cells [.t (.int .i64 0), .t (.int .i64 0), .t (.str []), .nils, .nils]), (3, .cells [.t (.int .i64 t.kind), .t (.int .i64 t.int), .t (.str t.text), .t (.lst (t.items.map Val.enc)), .t (.lst (t.keys.map sE))]), (4, .arr B.2.length), (5, .arr B.1.length), (6, .cells [.t (.int .i64 6), .t (.int .i64 0), .t (.str []), .own 5 5 (B.1.map Val.enc), .own 4 1 (B.2.map sE)])], 7⟩ }) (fun r i B => B.1.length ≤ i + 1 ∧ B.2.length ≤ i + 1 ∧ objOf paths (markF paths k) v path t.text l = .mk 6 0 [] (B.1 ++ (r.filter fun p => p.on == t.text).map (markItem paths (markF paths k) v path)) (B.2 ++ (r.filter fun p => p.on == t.text).map Pick.key)) 7 ([textV t.text], [tS]) rfl ⟨by simp, by simp, rfl⟩ rfl rfl rfl ?_ ?_ (he := (by repeat' (first | exact trivial | exact LeX.t | exact LeX.top | exact LeX.nilOwn (Nat.le_of_ble_eq_true rfl) (Nat.le_of_ble_eq_true rfl) | exact LeX.ownT | exact LeX.nilT | exact LeX.same rfl | exact LeX.tEq (by simp[Val.enc, textV, Val.encs, sE, tS]) | exact LeX.ownEq (by simp[Val.enc, textV, Val.encs, sE, tS]) (Nat.le_of_ble_eq_true rfl) | exact LeX.tEq (by congr 1 <;> omega) | exact Or.inr ⟨Nat.le_of_ble_eq_true rfl, Nat.le_of_ble_eq_true rfl, rfl⟩ | refine Or.inl ⟨Nat.le_of_ble_eq_true rfl, _, rfl, ?_⟩ | refine LeO.cells ?_ | exact LeO.arr rfl | exact LeO.arr (by simp[Val.enc, textV, Val.encs, sE, tS]) | exact LeO.mE (by first | rfl | simp[Val.enc, textV, Val.encs, sE, tS]) (by first | exact Or.inl rfl | exact Or.inr rfl) | exact LeO.cE (by first | rfl | simp[Val.enc, textV, Val.encs, sE, tS]) | exact LeXs.cE (by first | rfl | simp[Val.enc, textV, Val.encs, sE, tS]) | refine LeO.map (by first | rfl | simp) ?_ (by first | exact Or.inl rfl | exact Or.inr rfl) | refine LeXs.cons ?_ ?_ | exact LeXs.nil | refine And.intro ?_ ?_))) (hs := (by repeat' (first | exact trivial | exact LeX.t | exact LeX.top | exact LeX.nilOwn (Nat.le_of_ble_eq_true rfl) (Nat.le_of_ble_eq_true rfl) | exact LeX.ownT | exact LeX.nilT | exact LeX.same rfl | exact LeX.tEq (by simp[Val.enc, textV, Val.encs, sE, tS]) | exact LeX.ownEq (by simp[Val.enc, textV, Val.encs, sE, tS]) (Nat.le_of_ble_eq_true rfl) | exact LeX.tEq (by congr 1 <;> omega) | exact Or.inr ⟨Nat.le_of_ble_eq_true rfl, Nat.le_of_ble_eq_true rfl, rfl⟩ | refine Or.inl ⟨Nat.le_of_ble_eq_true rfl, _, rfl, ?_⟩ | refine LeO.cells ?_ | exact LeO.arr rfl | exact LeO.arr (by simp[Val.enc, textV, Val.encs, sE, tS]) | exact LeO.mE (by first | rfl | simp[Val.enc, textV, Val.encs, sE, tS]) (by first | exact Or.inl rfl | exact Or.inr rfl) | exact LeO.cE (by first | rfl | simp[Val.enc, textV, Val.encs, sE, tS]) | exact LeXs.cE (by first | rfl | simp[Val.enc, textV, Val.encs, sE, tS]) | refine LeO.map (by first | rfl | simp) ?_ (by first | exact Or.inl rfl | exact Or.inr rfl) | refine LeXs.cons ?_ ?_ | exact LeXs.nil | refine And.intro ?_ ?_)))
      · rintro ⟨B1, B2⟩ ⟨_, _, hB⟩
        rw [hB]
        refine fR rfl ?_
        refine Run.condF rfl rfl (by simp) ?_
        refine fR rfl ?_
        refine Run.fin rfl (EndOk.go ?_); exact .agg (.cons (.t rfl) (.cons (.t rfl) (.cons (.t rfl) (.cons (.own (by simp [Val.items])) (.cons (.own (by simp [Val.keys])) .nil)))))
      · rintro i p r ⟨B1, B2⟩ h1 hi hd ⟨hB1, hB2, hB⟩ ih
        have hpm := List.mem_of_getElem? h1
        have hp := hO p hpm
        have hpc := cnt_le hpm
        have hce := Pick.cnt_eq p
        have hB1' : B1.length ≤ i + 1 := hB1
        have hB2' : B2.length ≤ i + 1 := hB2
        refine fR rfl ?_
        refine Run.condT rfl rfl (by simp; omega) ?_
        refine fR rfl ?_
        refine Mid.elemMapC (Pick.enc_eq p) rfl rfl rfl h1 rfl rfl ?_
        refine fM rfl ?_
        refine Run.cond rfl rfl (fun hon => ?_) (fun hon => ?_)
        · have hon' : (p.on == t.text) = false := by simpa using hon
          refine fR rfl ?_
          refine aL rfl rfl rfl rfl rfl ?_
          refine fM rfl ?_
          exact rWeak 7 rfl (ih (B1, B2) ⟨by simp only; omega, by simp only; omega, by rw [hB]; simp [hon']⟩) rfl rfl rfl
        · have hon' : (p.on == t.text) = true := by simpa using hon
          have hpt : p.on = t.text := by simpa using hon'
          refine fR rfl ?_
          refine Mid.call (below_ok H path (by omega) p.on p.key) rfl rfl rfl rfl ?_
          refine fM rfl ?_
          refine Mid.call (gone_ok H (path ++ [⟨p.on, p.key⟩]) paths hP) rfl rfl rfl rfl ?_
          refine fM rfl ?_
          have hfin : ∀ y, markItem paths (markF paths k) v path p = y → objOf paths (markF paths k) v path t.text l = .mk 6 0 [] (B1 ++ [y] ++ (r.filter fun p => p.on == t.text).map (markItem paths (markF paths k) v path)) (B2 ++ [p.key] ++ (r.filter fun p => p.on == t.text).map Pick.key) := by
            intro y hy; rw [hB]; simp [hon', hy]
          refine Run.cond rfl rfl (fun hgo => ?_) (fun hgo => ?_)
          · have hy : markItem paths (markF paths k) v path p = failV := by simp only [markItem]; rw [if_pos hgo]
            refine fR rfl ?_
            refine apM sE B2 [p.key] rfl rfl rfl rfl rfl ?_
            refine fM rfl ?_
            refine apM Val.enc B1 [failV] rfl (congrArg (fun c => some (T.lst [c])) (Val.enc_eq failV).symm) rfl rfl rfl ?_ (hl := fun x => (congrArg List.length (Val.enc_eq x)).trans rfl)
            refine fM rfl ?_
            refine aL rfl rfl rfl rfl rfl ?_
            refine fM rfl ?_
            exact rWeak 7 rfl (ih (B1 ++ [failV], B2 ++ [p.key]) ⟨by simp; omega, by simp; omega, hfin _ hy⟩) rfl rfl rfl
          · have hgo' : ¬ decide (path ++ [⟨p.on, p.key⟩] ∈ paths) = true := by rw [hgo]; simp
            refine fR rfl ?_
            refine Mid.call (get_ok H v ho p.key) rfl rfl rfl rfl ?_
            refine fM rfl ?_
            cases hgx : getV v p.key with
            | none =>
              have hy : markItem paths (markF paths k) v path p = Val.zero := by simp only [markItem]; rw [if_neg hgo', hgx]
              refine Run.condF rfl rfl rfl ?_
              refine fR rfl ?_
              refine apM sE B2 [p.key] rfl rfl rfl rfl rfl ?_
              refine fM rfl ?_
              refine apM Val.enc B1 [Val.zero] rfl (congrArg (fun c => some (T.lst [c])) (Val.enc_eq Val.zero).symm) rfl rfl rfl ?_ (hl := fun x => (congrArg List.length (Val.enc_eq x)).trans rfl)
              refine fM rfl ?_
              refine aL rfl rfl rfl rfl rfl ?_
              refine fM rfl ?_
              exact rWeak 7 rfl (ih (B1 ++ [Val.zero], B2 ++ [p.key]) ⟨by simp; omega, by simp; omega, hfin _ hy⟩) rfl rfl rfl
            | some x =>
              have hy : markItem paths (markF paths k) v path p = markF paths k p.picks x (path ++ [⟨p.on, p.key⟩]) := by simp only [markItem]; rw [if_neg hgo', hgx]
              have hc := hrec p.picks x (path ++ [⟨p.on, p.key⟩]) (getV_mem hgx) hp.p (by simp; omega)
              unfold MarkC at hc
              generalize markF paths k p.picks x (path ++ [⟨p.on, p.key⟩]) = y at hc hy
              refine Run.condT rfl rfl rfl ?_
              refine fR rfl ?_
              refine Mid.call (hc) rfl rfl rfl rfl ?_
              refine fM rfl ?_
              refine apM sE B2 [p.key] rfl rfl rfl rfl rfl ?_
              refine fM rfl ?_
              refine apM Val.enc B1 [y] rfl (congrArg (fun c => some (T.lst [c])) (Val.enc_eq y).symm) rfl rfl rfl ?_ (hl := fun x => (congrArg List.length (Val.enc_eq x)).trans rfl)
              refine fM rfl ?_
              refine aL rfl rfl rfl rfl rfl ?_
              refine fM rfl ?_
              exact rWeak 7 rfl (ih (B1 ++ [y], B2 ++ [p.key]) ⟨by simp; omega, by simp; omega, hfin _ hy⟩) rfl rfl rfl
theorem mark_ok (H : Pr P) (paths : List (List Hop)) (hP : PathsOk paths) : ∀ (k : Nat) (l : List Pick) (v : Val) (path : List Hop), SizeOf.sizeOf v ≤ k → (∀ p, p ∈ l → p.Ok) → Pick.cnts l + path.length ≤ 10000 → v.Ok → MarkC P paths k l v path
  | 0, l, v, path, h, _, _, _ => by cases v; simp at h
  | k + 1, l, v, path, h, hO, hn, ho => mark_step H paths hP k l v path hO hn ho fun l' x path' hx hO' hn' => mark_ok H paths hP k l' x path' (by have := Val.size_items v hx; omega) hO' hn' (ho.it x hx)
end Go.GB.C43

/-
  A43I: contracts of chapters 43's functions: the reference's marks.
-/
namespace Go.GB.C43
open Go.GB
set_option linter.unusedSimpArgs false
set_option linter.unusedVariables false
set_option maxRecDepth 100000
set_option maxHeartbeats 4000000
variable {P : Program}

def MarkR (P : Program) (paths : List (List Hop)) (k : Nat) (l : List Pick) (v : Val) (path : List Hop) : Prop :=
  FnOk P 61 [.t (.lst (l.map Pick.enc)), .t (.lst (paths.map pE)), v.v, .t (.lst (path.map Hop.enc))] ⟨[], 0⟩ { v := (markF paths k l v path).v }

theorem rMark_step (H : Pr P) (paths : List (List Hop)) (hP : PathsOk paths) (k : Nat) (l : List Pick) (v : Val) (path : List Hop) (hO : ∀ p, p ∈ l → p.Ok) (hn : Pick.cnts l + path.length ≤ 10000) (ho : v.Ok)
    (hrec : ∀ (l' : List Pick) (x : Val) (path' : List Hop), x ∈ v.items → (∀ p, p ∈ l' → p.Ok) → Pick.cnts l' + path'.length ≤ 10000 → MarkR P paths k l' x path') : MarkR P paths (k + 1) l v path := by
  have hll := Pick.cnts_len l
  have hil := ho.il
  unfold MarkR
  refine FnOk.run H.i61 H.mixed rfl rfl ?_
  refine fR rfl ?_
  refine Run.cond rfl rfl (fun h5 => ?_) (fun h5 => ?_)
  · have hv5 : v.kind = 5 := by simpa using h5
    have e5 : markF paths (k + 1) l v path = .mk v.kind 0 [] (v.items.map fun x => markF paths k l x path) [] := by simp only [markF]; rw [if_pos h5, hv5]
    rw [e5]
    refine fR rfl ?_
    refine rList v.items (fun i (B : List Val) => { env := [(0, .t (.lst (l.map Pick.enc))), (1, .t (.lst (paths.map pE))), (3, .t (.lst (path.map Hop.enc))), (6, .ptr 0 0), (8, .ptr 1 0), (9, .ptr 2 0), (10, .t (.int .i64 i))], s := ⟨[(0, .cells [.t (.int .i64 v.kind), .t (.int .i64 v.int), .t (.str v.text), .t (.lst (v.items.map Val.enc)), .t (.lst (v.keys.map sE))]), (1, .cells [.t (.int .i64 0), .t (.int .i64 0), .t (.str []), .nils, .nils]), (2, .cells [.t (.int .i64 v.kind), .t (.int .i64 0), .t (.str []), .own 3 5 (B.map Val.enc), .nils]), (3, .arr B.length)], 4⟩ }) (fun r i B => B.length = i ∧ v.items.map (fun x => markF paths k l x path) = B ++ r.map (fun x => markF paths k l x path)) 3 [] rfl ⟨rfl, rfl⟩ rfl rfl rfl ?_ ?_
    · rintro B ⟨_, hB⟩
      have hB' : v.items.map (fun x => markF paths k l x path) = B := by rw [hB]; simp
      rw [hB']
      refine fR rfl ?_
      refine lM rfl rfl rfl ?_
      refine fM rfl ?_
      refine Run.condF rfl rfl (by simp) ?_
      refine fR rfl ?_
      refine Run.fin rfl (EndOk.go ?_); exact .agg (.cons (.t rfl) (.cons (.t rfl) (.cons (.t rfl) (.cons (.own rfl) (.cons (.nil rfl) .nil)))))
    · rintro i x r B h1 hi hd ⟨hBl, hB⟩ ih
      have hc := hrec l x path (List.mem_of_getElem? h1) hO hn
      unfold MarkR at hc
      simp only [List.map_cons] at hB
      generalize markF paths k l x path = y at hc hB
      refine fR rfl ?_
      refine lM rfl rfl rfl ?_
      refine fM rfl ?_
      refine Run.condT rfl rfl (by simp; omega) ?_
      refine fR rfl ?_
      refine Mid.elemMapC (Val.enc_eq x) rfl rfl rfl h1 rfl rfl ?_
      refine fM rfl ?_
      refine Mid.call (hc) rfl rfl rfl rfl ?_
      refine fM rfl ?_
      refine apM Val.enc B [y] rfl (congrArg (fun c => some (T.lst [c])) (Val.enc_eq y).symm) rfl rfl rfl ?_ (hl := fun x => (congrArg List.length (Val.enc_eq x)).trans rfl)
      refine fM rfl ?_
      refine aL rfl rfl rfl rfl rfl ?_
      refine fM rfl ?_
      exact rWeak 4 rfl (ih (B ++ [y]) ⟨by simp; omega, by rw [hB]; simp⟩) rfl rfl rfl
  · have h5' : ¬ (v.kind == 5) = true := by rw [h5]; simp
    refine fR rfl ?_
    refine Mid.call (rGet_ok H v ho tS) rfl rfl rfl rfl ?_
    refine fM rfl ?_
    refine Run.cond rfl rfl (fun hz => ?_) (fun hz => ?_)
    · have e : markF paths (k + 1) l v path = v := by
        simp only [markF]; rw [if_neg h5']
        cases hg : getV v tS with
        | none => rfl
        | some t =>
          simp only
          rw [hg] at hz
          by_cases hk : (t.kind != 3) = true
          · rw [if_pos hk]
          · simp at hz hk
            exact absurd hk hz
      rw [e]
      refine fR rfl ?_
      refine Run.fin rfl (EndOk.go ?_); exact .le (.same rfl)
    · obtain ⟨t, hg⟩ : ∃ t, getV v tS = some t := by
        cases hg : getV v tS with
        | none => rw [hg] at hz; simp at hz
        | some t => exact ⟨t, rfl⟩
      have hk : ¬ (t.kind != 3) = true := by
        rw [hg] at hz; simp at hz; simp [hz]
      have h6 : v.kind = 6 := by
        simp only [getV] at hg
        split at hg
        · cases hg
        · simp_all
      have e : markF paths (k + 1) l v path = objOf paths (markF paths k) v path t.text l := by
        simp only [markF]; rw [if_neg h5', hg]; simp only; rw [if_neg hk]
      rw [e]
      have hgd : (getV v tS).getD Val.zero = t := by rw [hg]; rfl
      simp only [hgd]
      refine fR rfl ?_
      refine rList l (fun i (B : List Val × List Str) => { env := [(0, .t (.lst (l.map Pick.enc))), (1, .t (.lst (paths.map pE))), (3, .t (.lst (path.map Hop.enc))), (6, .ptr 0 0), (8, .ptr 1 0), (9, .ptr 2 0), (12, .ptr 3 0), (14, .t (.int .i64 i))], s := ⟨[(0, .cells [.t (.int .i64 v.kind), .t (.int .i64 v.int), .t (.str v.text), .t (.lst (v.items.map Val.enc)), .t (.lst (v.keys.map sE))]), (1, .cells [.t (.int .i64 0), .t (.int .i64 0), .t (.str []), .nils, .nils]), (2, .cells [.t (.int .i64 v.kind), .t (.int .i64 0), .t (.str []), .own 5 5 (B.1.map Val.enc), .own 4 1 (B.2.map sE)]), (3, .cells [.t (.int .i64 t.kind), .t (.int .i64 t.int), .t (.str t.text), .t (.lst (t.items.map Val.enc)), .t (.lst (t.keys.map sE))]), (4, .arr B.2.length), (5, .arr B.1.length)], 6⟩ }) (fun r i B => B.1.length ≤ i + 1 ∧ B.2.length ≤ i + 1 ∧ objOf paths (markF paths k) v path t.text l = .mk v.kind 0 [] (B.1 ++ (r.filter fun p => p.on == t.text).map (markItem paths (markF paths k) v path)) (B.2 ++ (r.filter fun p => p.on == t.text).map Pick.key)) 6 ([textV t.text], [tS]) rfl ⟨by simp, by simp, by rw [h6]; rfl⟩ rfl rfl rfl ?_ ?_ (he := (by repeat' (first | exact trivial | exact LeX.t | exact LeX.top | exact LeX.nilOwn (Nat.le_of_ble_eq_true rfl) (Nat.le_of_ble_eq_true rfl) | exact LeX.ownT | exact LeX.nilT | exact LeX.same rfl | exact LeX.tEq (by simp[Val.enc, textV, Val.encs, sE, tS]) | exact LeX.ownEq (by simp[Val.enc, textV, Val.encs, sE, tS]) (Nat.le_of_ble_eq_true rfl) | exact LeX.tEq (by congr 1 <;> omega) | exact Or.inr ⟨Nat.le_of_ble_eq_true rfl, Nat.le_of_ble_eq_true rfl, rfl⟩ | refine Or.inl ⟨Nat.le_of_ble_eq_true rfl, _, rfl, ?_⟩ | refine LeO.cells ?_ | exact LeO.arr rfl | exact LeO.arr (by simp[Val.enc, textV, Val.encs, sE, tS]) | exact LeO.mE (by first | rfl | simp[Val.enc, textV, Val.encs, sE, tS]) (by first | exact Or.inl rfl | exact Or.inr rfl) | exact LeO.cE (by first | rfl | simp[Val.enc, textV, Val.encs, sE, tS]) | exact LeXs.cE (by first | rfl | simp[Val.enc, textV, Val.encs, sE, tS]) | refine LeO.map (by first | rfl | simp) ?_ (by first | exact Or.inl rfl | exact Or.inr rfl) | refine LeXs.cons ?_ ?_ | exact LeXs.nil | refine And.intro ?_ ?_))) (hs := (by repeat' (first | exact trivial | exact LeX.t | exact LeX.top | exact LeX.nilOwn (Nat.le_of_ble_eq_true rfl) (Nat.le_of_ble_eq_true rfl) | exact LeX.ownT | exact LeX.nilT | exact LeX.same rfl | exact LeX.tEq (by simp[Val.enc, textV, Val.encs, sE, tS]) | exact LeX.ownEq (by simp[Val.enc, textV, Val.encs, sE, tS]) (Nat.le_of_ble_eq_true rfl) | exact LeX.tEq (by congr 1 <;> omega) | exact Or.inr ⟨Nat.le_of_ble_eq_true rfl, Nat.le_of_ble_eq_true rfl, rfl⟩ | refine Or.inl ⟨Nat.le_of_ble_eq_true rfl, _, rfl, ?_⟩ | refine LeO.cells ?_ | exact LeO.arr rfl | exact LeO.arr (by simp[Val.enc, textV, Val.encs, sE, tS]) | exact LeO.mE (by first | rfl | simp[Val.enc, textV, Val.encs, sE, tS]) (by first | exact Or.inl rfl | exact Or.inr rfl) | exact LeO.cE (by first | rfl | simp[Val.enc, textV, Val.encs, sE, tS]) | exact LeXs.cE (by first | rfl | simp[Val.enc, textV, Val.encs, sE, tS]) | refine LeO.map (by first | rfl | simp) ?_ (by first | exact Or.inl rfl | exact Or.inr rfl) | refine LeXs.cons ?_ ?_ | exact LeXs.nil | refine And.intro ?_ ?_)))
      · rintro ⟨B1, B2⟩ ⟨_, _, hB⟩
        rw [hB]
        refine fR rfl ?_
        refine lM rfl rfl rfl ?_
        refine fM rfl ?_
        refine Run.condF rfl rfl (by simp) ?_
        refine fR rfl ?_
        refine Run.fin rfl (EndOk.go ?_); exact .agg (.cons (.t rfl) (.cons (.t rfl) (.cons (.t rfl) (.cons (.own (by simp [Val.items])) (.cons (.own (by simp [Val.keys])) .nil)))))
      · rintro i p r ⟨B1, B2⟩ h1 hi hd ⟨hB1, hB2, hB⟩ ih
        have hpm := List.mem_of_getElem? h1
        have hp := hO p hpm
        have hpc := cnt_le hpm
        have hce := Pick.cnt_eq p
        have hB1' : B1.length ≤ i + 1 := hB1
        have hB2' : B2.length ≤ i + 1 := hB2
        refine fR rfl ?_
        refine lM rfl rfl rfl ?_
        refine fM rfl ?_
        refine Run.condT rfl rfl (by simp; omega) ?_
        refine fR rfl ?_
        refine Mid.elemMapC (Pick.enc_eq p) rfl rfl rfl h1 rfl rfl ?_
        refine fM rfl ?_
        refine Run.cond rfl rfl (fun hon => ?_) (fun hon => ?_)
        · have hon' : (p.on == t.text) = false := by simpa using hon
          refine fR rfl ?_
          refine aL rfl rfl rfl rfl rfl ?_
          refine fM rfl ?_
          exact rWeak 6 rfl (ih (B1, B2) ⟨by simp only; omega, by simp only; omega, by rw [hB]; simp [hon']⟩) rfl rfl rfl
        · have hon' : (p.on == t.text) = true := by simpa using hon
          have hpt : p.on = t.text := by simpa using hon'
          have hfin : ∀ y, markItem paths (markF paths k) v path p = y → objOf paths (markF paths k) v path t.text l = .mk v.kind 0 [] (B1 ++ [y] ++ (r.filter fun p => p.on == t.text).map (markItem paths (markF paths k) v path)) (B2 ++ [p.key] ++ (r.filter fun p => p.on == t.text).map Pick.key) := by
            intro y hy; rw [hB]; simp [hon', hy]
          have hmi : markItem paths (markF paths k) v path p = if decide (path ++ [⟨t.text, p.key⟩] ∈ paths) = true then failV else match getV v p.key with | some x => markF paths k p.picks x (path ++ [⟨t.text, p.key⟩]) | none => Val.zero := by
            simp only [markItem]; first | (rw [hpt]; rfl) | rw [hpt]
          have hlp : (path ++ [(⟨t.text, p.key⟩ : Hop)]).length = path.length + 1 := by simp
          have hwith := with_ok H path (by omega) t.text p.key
          generalize path ++ [⟨t.text, p.key⟩] = path' at hmi hlp hwith
          refine fR rfl ?_
          refine Mid.elemMapC (Pick.enc_eq p) rfl rfl rfl h1 rfl rfl ?_
          refine fM rfl ?_
          refine Mid.call (hwith) rfl rfl rfl rfl ?_
          refine fM rfl ?_
          refine Mid.elemMapC (Pick.enc_eq p) rfl rfl rfl h1 rfl rfl ?_
          refine fM rfl ?_
          refine Mid.call (rGet_ok H v ho p.key) rfl rfl rfl rfl ?_
          refine fM rfl ?_
          refine Mid.call (listed_ok H path' (by omega) paths hP) rfl rfl rfl rfl ?_
          refine fM rfl ?_
          refine Run.cond rfl rfl (fun hgo => ?_) (fun hgo => ?_)
          · have hy : markItem paths (markF paths k) v path p = failV := by rw [hmi, if_pos hgo]
            refine fR rfl ?_
            refine Mid.elemMapC (Pick.enc_eq p) rfl rfl rfl h1 rfl rfl ?_
            refine fM rfl ?_
            refine apM sE B2 [p.key] rfl rfl rfl rfl rfl ?_
            refine fM rfl ?_
            refine apM Val.enc B1 [failV] rfl (congrArg (fun c => some (T.lst [c])) (Val.enc_eq failV).symm) rfl rfl rfl ?_ (hl := fun x => (congrArg List.length (Val.enc_eq x)).trans rfl)
            refine fM rfl ?_
            refine aL rfl rfl rfl rfl rfl ?_
            refine fM rfl ?_
            exact rWeak 6 rfl (ih (B1 ++ [failV], B2 ++ [p.key]) ⟨by simp; omega, by simp; omega, hfin _ hy⟩) rfl rfl rfl
          · have hgo' : ¬ decide (path' ∈ paths) = true := by rw [hgo]; simp
            refine fR rfl ?_
            cases hgx : getV v p.key with
            | none =>
              have hy : markItem paths (markF paths k) v path p = Val.zero := by rw [hmi, if_neg hgo', hgx]
              refine Run.condF rfl rfl rfl ?_
              refine fR rfl ?_
              refine Mid.elemMapC (Pick.enc_eq p) rfl rfl rfl h1 rfl rfl ?_
              refine fM rfl ?_
              refine apM sE B2 [p.key] rfl rfl rfl rfl rfl ?_
              refine fM rfl ?_
              refine apM Val.enc B1 [Val.zero] rfl (congrArg (fun c => some (T.lst [c])) (Val.enc_eq Val.zero).symm) rfl rfl rfl ?_ (hl := fun x => (congrArg List.length (Val.enc_eq x)).trans rfl)
              refine fM rfl ?_
              refine aL rfl rfl rfl rfl rfl ?_
              refine fM rfl ?_
              exact rWeak 6 rfl (ih (B1 ++ [Val.zero], B2 ++ [p.key]) ⟨by simp; omega, by simp; omega, hfin _ hy⟩) rfl rfl rfl
            | some x =>
              have hy : markItem paths (markF paths k) v path p = markF paths k p.picks x path' := by rw [hmi, if_neg hgo', hgx]
              have hc := hrec p.picks x path' (getV_mem hgx) hp.p (by omega)
              unfold MarkR at hc
              generalize markF paths k p.picks x path' = y at hc hy
              refine Run.condT rfl rfl rfl ?_
              refine fR rfl ?_
              refine Mid.elemMapC (Pick.enc_eq p) rfl rfl rfl h1 rfl rfl ?_
              refine fM rfl ?_
              refine Mid.call (hc) rfl rfl rfl rfl ?_
              refine fM rfl ?_
              refine Mid.elemMapC (Pick.enc_eq p) rfl rfl rfl h1 rfl rfl ?_
              refine fM rfl ?_
              refine apM sE B2 [p.key] rfl rfl rfl rfl rfl ?_
              refine fM rfl ?_
              refine apM Val.enc B1 [y] rfl (congrArg (fun c => some (T.lst [c])) (Val.enc_eq y).symm) rfl rfl rfl ?_ (hl := fun x => (congrArg List.length (Val.enc_eq x)).trans rfl)
              refine fM rfl ?_
              refine aL rfl rfl rfl rfl rfl ?_
              refine fM rfl ?_
              exact rWeak 6 rfl (ih (B1 ++ [y], B2 ++ [p.key]) ⟨by simp; omega, by simp; omega, hfin _ hy⟩) rfl rfl rfl
theorem rMark_ok (H : Pr P) (paths : List (List Hop)) (hP : PathsOk paths) : ∀ (k : Nat) (l : List Pick) (v : Val) (path : List Hop), SizeOf.sizeOf v ≤ k → (∀ p, p ∈ l → p.Ok) → Pick.cnts l + path.length ≤ 10000 → v.Ok → MarkR P paths k l v path
  | 0, l, v, path, h, _, _, _ => by cases v; simp at h
  | k + 1, l, v, path, h, hO, hn, ho => rMark_step H paths hP k l v path hO hn ho fun l' x path' hx hO' hn' => rMark_ok H paths hP k l' x path' (by have := Val.size_items v hx; omega) hO' hn' (ho.it x hx)

/-- a raw result that is null stands for an object without fields -/
def rawOf (l : List Pick) (v : Val) : Val :=
  match l with
  | [] => v
  | p :: _ => if (v.kind == 0) = true then .mk 6 0 [] [textV p.on] [tS] else v
def markT (paths : List (List Hop)) (k : Nat) (l : List Pick) (v : Val) : Val := markF paths k l (rawOf l v) []
theorem rawOf_ok {l : List Pick} {v : Val} (ho : v.Ok) (hl : ∀ p, p ∈ l → p.on.length ≤ 9223372036854775807) : (rawOf l v).Ok := by
  cases l with
  | nil => exact ho
  | cons p r =>
    simp only [rawOf]
    split
    · exact .mk (by show 1 * 80 ≤ 140737488355328; decide) (by show 1 * 16 ≤ 140737488355328; decide) (by
        intro x hx; simp at hx; subst hx
        exact .mk (by decide) (by decide) (by simp) (hl p (List.mem_cons_self ..)) (by simp)) (by decide) (by
        intro x hx; simp at hx; subst hx; decide)
    · exact ho
theorem markT_ok (H : Pr P) (paths : List (List Hop)) (hP : PathsOk paths) (k : Nat) (l : List Pick) (v : Val) (hk : SizeOf.sizeOf (rawOf l v) ≤ k) (hO : ∀ p, p ∈ l → p.Ok) (hon : ∀ p, p ∈ l → p.on.length ≤ 9223372036854775807) (hn : Pick.cnts l ≤ 10000) (ho : v.Ok) :
    FnOk P 24 [.t (.lst (l.map Pick.enc)), .t (.lst (paths.map pE)), v.v] ⟨[], 0⟩ { v := (markT paths k l v).v } := by
  have hll := Pick.cnts_len l
  have h := mark_ok H paths hP k l (rawOf l v) [] hk hO (by simpa using hn) (rawOf_ok ho hon)
  unfold MarkC at h
  unfold markT
  refine FnOk.run H.i24 H.mixed rfl rfl ?_
  refine fR rfl ?_
  refine lMG rfl rfl rfl rfl ?_
  refine fM rfl ?_
  refine Run.cond rfl rfl (fun hc => ?_) (fun hc => ?_)
  · have hc' : v.kind = 0 ∧ 0 < l.length := by simp at hc; omega
    obtain ⟨p, r, rfl⟩ : ∃ p r, l = p :: r := by
      cases l with
      | nil => simp at hc'
      | cons p r => exact ⟨p, r, rfl⟩
    have e : rawOf (p :: r) v = .mk 6 0 [] [textV p.on] [tS] := by simp only [rawOf]; rw [if_pos (by simp [hc'.1])]
    rw [e] at h ⊢
    generalize markF paths k (p :: r) (Val.mk 6 0 [] [textV p.on] [tS]) [] = y at h
    refine fR rfl ?_
    refine Mid.elemMapC (Pick.enc_eq p) rfl rfl rfl (show (p :: r)[0]? = some p from rfl) rfl rfl ?_
    refine fM rfl ?_
    refine Mid.call (text_ok H p.on) rfl rfl rfl rfl ?_
    refine fM rfl ?_
    refine Mid.call (h) rfl rfl rfl rfl ?_
    refine fM rfl ?_
    refine Run.fin rfl (EndOk.go ?_); exact .le (.same rfl)
  · have e : rawOf l v = v := by
      cases l with
      | nil => rfl
      | cons p r =>
        simp only [rawOf]
        rw [if_neg]
        intro h0
        simp at hc h0; exact absurd hc (by simp [h0])
    rw [e] at h ⊢
    refine fR rfl ?_
    refine Mid.call (h) rfl rfl rfl rfl ?_
    refine fM rfl ?_
    refine Run.fin rfl (EndOk.go ?_); exact .le (.same rfl)
theorem rMarkT_ok (H : Pr P) (paths : List (List Hop)) (hP : PathsOk paths) (k : Nat) (l : List Pick) (v : Val) (hk : SizeOf.sizeOf (rawOf l v) ≤ k) (hO : ∀ p, p ∈ l → p.Ok) (hon : ∀ p, p ∈ l → p.on.length ≤ 9223372036854775807) (hn : Pick.cnts l ≤ 10000) (ho : v.Ok) :
    FnOk P 25 [.t (.lst (l.map Pick.enc)), .t (.lst (paths.map pE)), v.v] ⟨[], 0⟩ { v := (markT paths k l v).v } := by
  have hll := Pick.cnts_len l
  have h := rMark_ok H paths hP k l (rawOf l v) [] hk hO (by simpa using hn) (rawOf_ok ho hon)
  unfold MarkR at h
  unfold markT
  refine FnOk.run H.i25 H.mixed rfl rfl ?_
  refine fR rfl ?_
  refine lMG rfl rfl rfl rfl ?_
  refine fM rfl ?_
  refine Run.cond rfl rfl (fun hc => ?_) (fun hc => ?_)
  · have hc' : v.kind = 0 ∧ 0 < l.length := by simp at hc; omega
    obtain ⟨p, r, rfl⟩ : ∃ p r, l = p :: r := by
      cases l with
      | nil => simp at hc'
      | cons p r => exact ⟨p, r, rfl⟩
    have e : rawOf (p :: r) v = .mk 6 0 [] [textV p.on] [tS] := by simp only [rawOf]; rw [if_pos (by simp [hc'.1])]
    rw [e] at h ⊢
    generalize markF paths k (p :: r) (Val.mk 6 0 [] [textV p.on] [tS]) [] = y at h
    refine fR rfl ?_
    refine Mid.elemMapC (Pick.enc_eq p) rfl rfl rfl (show (p :: r)[0]? = some p from rfl) rfl rfl ?_
    refine fM rfl ?_
    refine Mid.call (h) rfl rfl rfl rfl ?_
    refine fM rfl ?_
    refine Run.fin rfl (EndOk.go ?_); exact .le (.same rfl)
  · have e : rawOf l v = v := by
      cases l with
      | nil => rfl
      | cons p r =>
        simp only [rawOf]
        rw [if_neg]
        intro h0
        simp at hc h0; exact absurd hc (by simp [h0])
    rw [e] at h ⊢
    refine fR rfl ?_
    refine Mid.call (h) rfl rfl rfl rfl ?_
    refine fM rfl ?_
    refine Run.fin rfl (EndOk.go ?_); exact .le (.same rfl)
end Go.GB.C43

/-
  A43S: contracts of chapter 43's functions: the example.
-/
namespace Go.GB.C43
open Go.GB
set_option linter.unusedSimpArgs false
set_option linter.unusedVariables false
set_option maxRecDepth 100000
set_option maxHeartbeats 2000000
variable {P : Program}

def nameF : Field := ⟨[110, 97, 109, 101], [], ⟨[83, 116, 114, 105, 110, 103], []⟩, []⟩
def salaryF : Field := ⟨[115, 97, 108, 97, 114, 121], [], ⟨[73, 110, 116], []⟩, [⟨scopesS, [⟨allS, .mk 5 0 [] [textV [104, 114]] []⟩]⟩]⟩
def meF : Field := ⟨[109, 101], [], ⟨[85, 115, 101, 114], []⟩, []⟩
def exDs : List Def := [⟨1, [81, 117, 101, 114, 121], [], [], [meF], [], []⟩, ⟨1, [85, 115, 101, 114], [], [], [nameF, salaryF], [], []⟩, ⟨1, [65, 100, 109, 105, 110], [], [⟨authS, []⟩], [nameF], [], []⟩]
def nameP : Pick := .mk [110, 97, 109, 101] [85, 115, 101, 114] [110, 97, 109, 101] [] ⟨[83, 116, 114, 105, 110, 103], []⟩ [] (-1) []
def salaryP : Pick := .mk [115, 97, 108, 97, 114, 121] [85, 115, 101, 114] [115, 97, 108, 97, 114, 121] [] ⟨[73, 110, 116], []⟩ [] (-1) []
def exL : List Pick := [.mk [109, 101] [81, 117, 101, 114, 121] [109, 101] [] ⟨[85, 115, 101, 114], []⟩ [] (-1) [nameP, salaryP]]
theorem text2e_ok (H : Pr P) (s : Str) : FnOk P 48 [.t (.str s)] ⟨[], 0⟩ { v := (textV s).v } := by
  refine FnOk.run H.i48 H.mixed rfl rfl ?_
  refine fR rfl ?_
  refine Run.fin rfl (EndOk.go ?_); exact .agg (.cons (.t rfl) (.cons (.t rfl) (.cons (.t rfl) (.cons (.nil rfl) (.cons (.nil rfl) .nil)))))
theorem example_ok (H : Pr P) : FnOk P 47 [] ⟨[], 0⟩ { v := .tup [docV exDs, .t (.lst (exL.map Pick.enc))] } := by
  refine FnOk.run H.i47 H.mixed rfl rfl ?_
  refine fR rfl ?_
  refine Mid.call (text2e_ok H [104, 114]) rfl rfl rfl rfl ?_
  refine Mid.fast (f := 61) rfl trivial ?_
  refine Mid.bslP rfl rfl rfl ?_
  refine fM rfl ?_
  refine Run.fin rfl (EndOk.go ?_); exact .tup2 (.agg (.cons (.own rfl) .nil)) (.t rfl)
def exM : List Pick := [.mk [109, 101] [81, 117, 101, 114, 121] [109, 101] [] ⟨[85, 115, 101, 114], []⟩ [] (-1) [nameP]]
def exG : List (List Hop) := [[⟨[81, 117, 101, 114, 121], [109, 101]⟩, ⟨[85, 115, 101, 114], [115, 97, 108, 97, 114, 121]⟩]]
def exI : Val := .mk 6 0 [] [textV [85, 115, 101, 114], textV [97]] [tS, [110, 97, 109, 101]]
def exV : Val := .mk 6 0 [] [textV [81, 117, 101, 114, 121], exI] [tS, [109, 101]]
def exW : Val := .mk 6 0 [] [textV [81, 117, 101, 114, 121], .mk 6 0 [] [textV [85, 115, 101, 114], textV [97], failV] [tS, [110, 97, 109, 101], [115, 97, 108, 97, 114, 121]]] [tS, [109, 101]]
theorem ex_filts : Pick.filts (mayP exDs ⟨true, []⟩) exL [] = (exM, exG) := by kernel_rfl
theorem ex_mark : markT exG 100000 exL exV = exW := by kernel_rfl
theorem ex_size : SizeOf.sizeOf (rawOf exL exV) ≤ 100000 := Nat.le_of_ble_eq_true (by kernel_rfl)
theorem ex_may1 : mayP exDs ⟨true, [[104, 114]]⟩ [85, 115, 101, 114] [115, 97, 108, 97, 114, 121] = true := by kernel_rfl
theorem ex_may2 : mayP exDs ⟨true, []⟩ [85, 115, 101, 114] [115, 97, 108, 97, 114, 121] = false := by kernel_rfl
theorem ex_type : typeP exDs [65, 100, 109, 105, 110] ⟨false, []⟩ = false := by kernel_rfl
theorem textV_ok (s : Str) (h : s.length ≤ 9223372036854775807) : (textV s).Ok := .mk (by decide) (by decide) (by simp) h (by simp)
theorem exI_ok : exI.Ok := .mk (by decide) (by decide) (by intro x hx; simp at hx; rcases hx with rfl | rfl <;> exact textV_ok _ (by decide)) (by decide) (by intro x hx; simp [tS] at hx; rcases hx with rfl | rfl <;> decide)
theorem exV_ok : exV.Ok := .mk (by decide) (by decide) (by intro x hx; simp at hx; rcases hx with rfl | rfl; exact textV_ok _ (by decide); exact exI_ok) (by decide) (by intro x hx; simp [tS] at hx; rcases hx with rfl | rfl <;> decide)
theorem nameF_ok : nameF.Ok := ⟨by decide, by simp [nameF], ⟨by decide⟩, by decide, by simp [nameF]⟩
theorem meF_ok : meF.Ok := ⟨by decide, by simp [meF], ⟨by decide⟩, by decide, by simp [meF]⟩
theorem salaryF_ok : salaryF.Ok := by
  refine ⟨by decide, by simp [salaryF], ⟨by decide⟩, by decide, ?_⟩
  intro d hd
  simp [salaryF] at hd; subst hd
  refine ⟨by decide, ?_⟩
  intro a ha
  simp at ha; subst ha
  refine .mk (by decide) (by decide) ?_ (by decide) (by simp)
  intro x hx; simp at hx; subst hx; exact textV_ok _ (by decide)
theorem exDs_ok : DocOk exDs := by
  refine ⟨by decide, ?_⟩
  intro d hd
  simp [exDs] at hd
  rcases hd with rfl | rfl | rfl
  · exact ⟨by decide, by decide, by simp, by decide, by intro y hy; simp at hy; subst hy; exact meF_ok, by decide, by simp, by decide, by simp⟩
  · exact ⟨by decide, by decide, by simp, by decide, by intro y hy; simp at hy; rcases hy with rfl | rfl; exact nameF_ok; exact salaryF_ok, by decide, by simp, by decide, by simp⟩
  · refine ⟨by decide, by decide, ?_, by decide, by intro y hy; simp at hy; subst hy; exact nameF_ok, by decide, by simp, by decide, by simp⟩
    intro d hd; simp at hd; subst hd; exact ⟨by decide, by simp⟩
theorem exL_ok : ∀ p, p ∈ exL → p.Ok := by
  intro p hp; simp [exL] at hp; subst hp
  refine .mk (by decide) (by simp) ⟨by decide⟩ (by decide) ?_
  intro q hq; simp at hq
  rcases hq with rfl | rfl <;> exact .mk (by decide) (by simp) ⟨by decide⟩ (by decide) (by simp)
theorem exL_on : ∀ p, p ∈ exL → p.on.length ≤ 9223372036854775807 := by
  intro p hp; simp [exL] at hp; subst hp; decide
theorem exHolds_ok (H : Pr P) : FnOk P 14 [] ⟨[], 0⟩ { v := .t (.bool true) } := by
  have hf := filterT_ok H exDs exDs_ok ⟨true, []⟩ (by decide) exL exL_ok (by decide)
  rw [ex_filts] at hf
  have hm := markT_ok H exG (by refine ⟨by decide, fun q hq => ?_⟩; simp [exG] at hq; subst hq; decide) 100000 exL exV ex_size exL_ok exL_on (by decide) exV_ok
  rw [ex_mark] at hm
  have h1 := may_ok H exDs exDs_ok [85, 115, 101, 114] [115, 97, 108, 97, 114, 121] ⟨true, [[104, 114]]⟩ (by decide)
  have h2 := may_ok H exDs exDs_ok [85, 115, 101, 114] [115, 97, 108, 97, 114, 121] ⟨true, []⟩ (by decide)
  have h3 := type_ok H exDs exDs_ok [65, 100, 109, 105, 110] ⟨false, []⟩ (by decide)
  rw [ex_may1] at h1; rw [ex_may2] at h2; rw [ex_type] at h3
  refine FnOk.run H.i14 H.mixed rfl rfl ?_
  refine fR rfl ?_
  refine Mid.call (example_ok H) rfl rfl rfl rfl ?_
  refine fM rfl ?_
  refine Mid.call (hf) rfl rfl rfl rfl ?_
  refine fM rfl ?_
  refine Mid.call (text2e_ok H [85, 115, 101, 114]) rfl rfl rfl rfl ?_
  skip
  refine Mid.call (text2e_ok H [97]) rfl rfl rfl rfl ?_
  refine fM rfl ?_
  refine Mid.call (text2e_ok H [81, 117, 101, 114, 121]) rfl rfl rfl rfl ?_
  refine fM rfl ?_
  refine Mid.call (hm) rfl rfl rfl rfl ?_
  refine fM rfl ?_
  refine lM rfl rfl rfl ?_
  refine fM rfl ?_
  refine gr rfl ?_
  refine fM rfl ?_
  refine gr rfl ?_
  refine fM rfl ?_
  refine lMG rfl rfl rfl rfl ?_
  refine fM rfl ?_
  refine gr rfl ?_
  refine fM rfl ?_
  refine lMG rfl rfl rfl rfl ?_
  refine fM rfl ?_
  refine lMG rfl rfl rfl rfl ?_
  refine fM rfl ?_
  refine gr rfl ?_
  refine fM rfl ?_
  refine gr rfl ?_
  refine fM rfl ?_
  refine Run.condF rfl rfl (by decide) ?_
  refine fR rfl ?_
  refine pu rfl ?_
  refine fM rfl ?_
  refine pu rfl ?_
  refine fM rfl ?_
  refine gr rfl ?_
  refine fM rfl ?_
  refine gr rfl ?_
  refine fM rfl ?_
  refine Mid.ungd rfl rfl rfl ?_
  refine fM rfl ?_
  refine caG rfl rfl (fun hg => ⟨_, rfl, h1, rfl⟩) rfl rfl ?_
  refine fM rfl ?_
  refine caG rfl rfl (fun hg => ⟨_, rfl, h2, rfl⟩) rfl rfl ?_
  refine fM rfl ?_
  refine caG rfl rfl (fun hg => ⟨_, rfl, h3, rfl⟩) rfl rfl ?_
  refine fM rfl ?_
  refine Run.fin rfl (EndOk.go ?_); exact .t rfl
end Go.GB.C43

/-
  A43J: contracts of chapters 43's functions: equality.
-/
namespace Go.GB.C43
open Go.GB
set_option linter.unusedSimpArgs false
set_option linter.unusedVariables false
set_option maxRecDepth 100000
set_option maxHeartbeats 2000000
variable {P : Program}

mutual
def eqb : Val → Val → Bool
  | .mk k i t its ks, .mk k' i' t' its' ks' => (k == k') && (i == i') && (t == t') && eqbs its its' && (ks == ks')
def eqbs : List Val → List Val → Bool
  | [], [] => true
  | a :: r, b :: s => eqb a b && eqbs r s
  | _, _ => false
end
theorem eqb_spec : ∀ (n : Nat), (∀ a b : Val, SizeOf.sizeOf a ≤ n → (eqb a b = true ↔ a = b)) ∧ ∀ a b : List Val, SizeOf.sizeOf a ≤ n → (eqbs a b = true ↔ a = b)
  | 0 => ⟨fun a b h => by cases a; simp at h, fun a b h => by cases a <;> simp at h⟩
  | n + 1 => by
    obtain ⟨h1, h2⟩ := eqb_spec n
    refine ⟨fun a b h => ?_, fun a b h => ?_⟩
    · cases a with
      | mk k i t its ks =>
        cases b with
        | mk k' i' t' its' ks' =>
          have := h2 its its' (by simp at h; omega)
          simp [eqb, this, and_assoc]
    · cases a with
      | nil => cases b <;> simp [eqbs]
      | cons x r =>
        cases b with
        | nil => simp [eqbs]
        | cons y s =>
          have a1 := h1 x y (by simp at h; omega)
          have a2 := h2 r s (by simp at h; omega)
          simp [eqbs, a1, a2]
theorem eqb_iff (a b : Val) : eqb a b = true ↔ a = b := (eqb_spec _).1 a b (Nat.le_refl _)
instance valDec : DecidableEq Val := fun a b =>
  match h : eqb a b with
  | true => .isTrue ((eqb_iff a b).1 h)
  | false => .isFalse (fun e => by rw [(eqb_iff a b).2 e] at h; cases h)

def eqHead (a b : Val) : Bool := (a.kind != b.kind) || (a.int != b.int) || (a.text != b.text) || (((a.items.length : Nat) : Int) != (b.items.length : Nat)) || (((a.keys.length : Nat) : Int) != (b.keys.length : Nat))
def EqualC (P : Program) (a b : Val) : Prop := FnOk P 26 [a.v, b.v] ⟨[], 0⟩ { v := .t (.bool (decide (a = b))) }
theorem equal_step (H : Pr P) (a b : Val) (ha : a.Ok) (hrec : ∀ x y, x ∈ a.items → EqualC P x y) : EqualC P a b := by
  have hil := ha.il
  have hkl := ha.kl
  unfold EqualC
  refine FnOk.run H.i26 H.mixed rfl rfl ?_
  refine fR rfl ?_
  refine lMG rfl rfl rfl rfl ?_
  refine fM rfl ?_
  refine lMG rfl rfl rfl rfl ?_
  refine fM rfl ?_
  refine lMG rfl rfl rfl rfl ?_
  refine fM rfl ?_
  refine lMG rfl rfl rfl rfl ?_
  refine fM rfl ?_
  refine Run.cond rfl rfl (fun h => ?_) (fun h => ?_)
  · have h' : eqHead a b = true := h
    have hne : ¬ a = b := by rintro rfl; simp [eqHead] at h'
    refine fR rfl ?_
    refine Run.fin rfl (EndOk.go ?_); exact .t (by simp [hne])
  · have h' : eqHead a b = false := h
    have hh : a.kind = b.kind ∧ a.int = b.int ∧ a.text = b.text ∧ a.items.length = b.items.length ∧ a.keys.length = b.keys.length := by
      simp [eqHead] at h'; exact ⟨h'.1.1.1.1, h'.1.1.1.2, h'.1.1.2, by omega, by omega⟩
    obtain ⟨e1, e2, e3, e4, e5⟩ := hh
    have hiff : (a = b) = (a.keys = b.keys ∧ a.items = b.items) := propext ⟨fun e => by rw [e]; exact ⟨rfl, rfl⟩, fun ⟨c1, c2⟩ => by
      rw [← Val.eta a, ← Val.eta b, e1, e2, e3, c1, c2]⟩
    refine fR rfl ?_
    refine rList a.keys (fun i (_ : Unit) => { env := [(2, .ptr 0 0), (3, .ptr 1 0), (5, .t (.int .i64 i))], s := ⟨[(0, .cells [.t (.int .i64 a.kind), .t (.int .i64 a.int), .t (.str a.text), .t (.lst (a.items.map Val.enc)), .t (.lst (a.keys.map sE))]), (1, .cells [.t (.int .i64 b.kind), .t (.int .i64 b.int), .t (.str b.text), .t (.lst (b.items.map Val.enc)), .t (.lst (b.keys.map sE))])], 2⟩ }) (fun r i _ => (a = b) = (r = b.keys.drop i ∧ a.items = b.items)) 2 () rfl (by simpa using hiff) rfl rfl rfl ?_ ?_
    · intro _ hk
      have hk' : (a = b) = (a.items = b.items) := by rw [hk, e5]; simp
      refine fR rfl ?_
      refine lM rfl rfl rfl ?_
      refine fM rfl ?_
      refine Run.condF rfl rfl (by simp) ?_
      refine fR rfl ?_
      refine rList a.items (fun i (_ : Unit) => { env := [(2, .ptr 0 0), (3, .ptr 1 0), (6, .t (.int .i64 i))], s := ⟨[(0, .cells [.t (.int .i64 a.kind), .t (.int .i64 a.int), .t (.str a.text), .t (.lst (a.items.map Val.enc)), .t (.lst (a.keys.map sE))]), (1, .cells [.t (.int .i64 b.kind), .t (.int .i64 b.int), .t (.str b.text), .t (.lst (b.items.map Val.enc)), .t (.lst (b.keys.map sE))])], 2⟩ }) (fun r i _ => (a = b) = (r = b.items.drop i)) 2 () rfl (by simpa using hk') rfl rfl rfl ?_ ?_
      · intro _ hi
        have : a = b := by rw [hi, e4]; simp
        refine fR rfl ?_
        refine lM rfl rfl rfl ?_
        refine fM rfl ?_
        refine Run.condF rfl rfl (by simp) ?_
        refine fR rfl ?_
        refine Run.fin rfl (EndOk.go ?_); exact .t (by simp [this])
      · intro i x r _ h1 hi hd hinv ih
        have h2 : b.items[i]? = some (b.items[i]'(by omega)) := by simp
        have hdb : b.items.drop i = b.items[i]'(by omega) :: b.items.drop (i + 1) := List.drop_eq_getElem_cons (by omega)
        generalize b.items[i]'(by omega) = y at h2 hdb
        have hc := hrec x y (List.mem_of_getElem? h1)
        unfold EqualC at hc
        refine fR rfl ?_
        refine lM rfl rfl rfl ?_
        refine fM rfl ?_
        refine Run.condT rfl rfl (by simp; omega) ?_
        refine fR rfl ?_
        refine Mid.elemMapC (Val.enc_eq x) rfl rfl rfl h1 rfl rfl ?_
        refine fM rfl ?_
        refine Mid.elemMapC (Val.enc_eq y) rfl rfl rfl h2 rfl rfl ?_
        refine fM rfl ?_
        refine Mid.call (hc) rfl rfl rfl rfl ?_
        refine fM rfl ?_
        refine Run.cond rfl rfl (fun hxy => ?_) (fun hxy => ?_)
        · have hne : ¬ x = y := by simpa using hxy
          have : ¬ a = b := by rw [hinv, hdb]; exact fun e => hne (List.cons.inj e).1
          refine fR rfl ?_
          refine Run.fin rfl (EndOk.go ?_); exact .t (by simp [this])
        · have he : x = y := by simpa using hxy
          refine fR rfl ?_
          refine aL rfl rfl rfl rfl rfl ?_
          refine fM rfl ?_
          exact rWeak 2 rfl (ih () (by rw [hinv, hdb, he]; simp)) rfl rfl rfl
    · intro i x r _ h1 hi hd hinv ih
      have h2 : b.keys[i]? = some (b.keys[i]'(by omega)) := by simp
      have hdb : b.keys.drop i = b.keys[i]'(by omega) :: b.keys.drop (i + 1) := List.drop_eq_getElem_cons (by omega)
      generalize b.keys[i]'(by omega) = y at h2 hdb
      refine fR rfl ?_
      refine lM rfl rfl rfl ?_
      refine fM rfl ?_
      refine Run.condT rfl rfl (by simp; omega) ?_
      refine fR rfl ?_
      refine Mid.elemMap rfl rfl rfl h1 rfl rfl ?_
      refine fM rfl ?_
      refine Mid.elemMap rfl rfl rfl h2 rfl rfl ?_
      refine fM rfl ?_
      refine Run.cond rfl rfl (fun hxy => ?_) (fun hxy => ?_)
      · have hne : ¬ x = y := by simpa using hxy
        have : ¬ a = b := by rw [hinv, hdb]; exact fun e => hne (List.cons.inj e.1).1
        refine fR rfl ?_
        refine Run.fin rfl (EndOk.go ?_); exact .t (by simp [this])
      · have he : x = y := by simpa using hxy
        refine fR rfl ?_
        refine aL rfl rfl rfl rfl rfl ?_
        refine fM rfl ?_
        exact rWeak 2 rfl (ih () (by rw [hinv, hdb, he]; simp)) rfl rfl rfl
theorem equal_ok' (H : Pr P) : ∀ (k : Nat) (a b : Val), SizeOf.sizeOf a ≤ k → a.Ok → EqualC P a b
  | 0, a, b, h, _ => by cases a; simp at h
  | k + 1, a, b, h, ha => equal_step H a b ha fun x y hx => equal_ok' H k x y (by have := Val.size_items a hx; omega) (ha.it x hx)
theorem equal_ok (H : Pr P) (a b : Val) (ha : a.Ok) : FnOk P 26 [a.v, b.v] ⟨[], 0⟩ { v := .t (.bool (decide (a = b))) } := equal_ok' H _ a b (Nat.le_refl _) ha

theorem ints_refl (H : Pr P) (n : Int) : FnOk P 123 [.t (.int .i64 n), .t (.int .i64 n)] ⟨[], 0⟩ { v := .t (.int .i64 0) } := by
  refine FnOk.run H.i123 H.mixed rfl rfl ?_
  refine fR rfl ?_
  refine Run.condF rfl rfl (by simp) ?_
  refine fR rfl ?_
  refine Run.condF rfl rfl (by simp) ?_
  refine fR rfl ?_
  refine Run.fin rfl (EndOk.go ?_); exact .t rfl
theorem sameI_refl (H : Pr P) (l : List Int) (hl : l.length ≤ 140737488355328) : FnOk P 102 [.t (.lst (l.map nE)), .t (.lst (l.map nE))] ⟨[], 0⟩ { v := .t (.bool true) } := by
  refine FnOk.run H.i102 H.mixed rfl rfl ?_
  refine fR rfl ?_
  refine lM rfl rfl rfl ?_
  refine fM rfl ?_
  refine lM rfl rfl rfl ?_
  refine fM rfl ?_
  refine Run.condF rfl rfl (by simp) ?_
  refine fR rfl ?_
  refine rList l (fun i (_ : Unit) => { env := [(0, .t (.lst (l.map nE))), (1, .t (.lst (l.map nE))), (5, .t (.int .i64 i))], s := ⟨[], 0⟩ }) (fun r i _ => True) 0 () rfl trivial rfl rfl rfl ?_ ?_
  · intro _ _
    refine fR rfl ?_
    refine lM rfl rfl rfl ?_
    refine fM rfl ?_
    refine Run.condF rfl rfl (by simp) ?_
    refine fR rfl ?_
    refine Run.fin rfl (EndOk.go ?_); exact .t rfl
  · intro i x r _ h1 hi hd _ ih
    refine fR rfl ?_
    refine lM rfl rfl rfl ?_
    refine fM rfl ?_
    refine Run.condT rfl rfl (by simp; omega) ?_
    refine fR rfl ?_
    refine Mid.elemMap rfl rfl rfl h1 rfl rfl ?_
    refine fM rfl ?_
    refine Mid.elemMap rfl rfl rfl h1 rfl rfl ?_
    refine fM rfl ?_
    refine Run.condF rfl rfl (by simp) ?_
    refine fR rfl ?_
    refine aL rfl rfl rfl rfl rfl ?_
    refine fM rfl ?_
    exact rWeak 0 rfl (ih () trivial) rfl rfl rfl
theorem sameRef_refl (H : Pr P) (r : Ref) (hr : r.Ok) : FnOk P 57 [r.v, r.v] ⟨[], 0⟩ { v := .t (.bool true) } := by
  have hl := hr.l
  refine FnOk.run H.i57 H.mixed rfl rfl ?_
  refine fR rfl ?_
  refine caG rfl rfl (fun hg => ⟨_, rfl, sameI_refl H r.wraps (by omega), rfl⟩) rfl rfl ?_
  refine fM rfl ?_
  refine Run.fin rfl (EndOk.go ?_); exact .t (by simp)
theorem samePaths_refl (H : Pr P) (l : List (List Hop)) (hl : PathsOk l) : FnOk P 22 [.t (.lst (l.map pE)), .t (.lst (l.map pE))] ⟨[], 0⟩ { v := .t (.bool true) } := by
  have hll := hl.l
  refine FnOk.run H.i22 H.mixed rfl rfl ?_
  refine fR rfl ?_
  refine lM rfl rfl rfl ?_
  refine fM rfl ?_
  refine lM rfl rfl rfl ?_
  refine fM rfl ?_
  refine Run.condF rfl rfl (by simp) ?_
  refine fR rfl ?_
  refine rList l (fun i (_ : Unit) => { env := [(0, .t (.lst (l.map pE))), (1, .t (.lst (l.map pE))), (5, .t (.int .i64 i))], s := ⟨[], 0⟩ }) (fun r i _ => True) 0 () rfl trivial rfl rfl rfl ?_ ?_
  · intro _ _
    refine fR rfl ?_
    refine lM rfl rfl rfl ?_
    refine fM rfl ?_
    refine Run.condF rfl rfl (by simp) ?_
    refine fR rfl ?_
    refine Run.fin rfl (EndOk.go ?_); exact .t rfl
  · intro i p r _ h1 hi hd _ ih
    have hpl := hl.p p (List.mem_of_getElem? h1)
    refine fR rfl ?_
    refine lM rfl rfl rfl ?_
    refine fM rfl ?_
    refine Run.condT rfl rfl (by simp; omega) ?_
    refine fR rfl ?_
    refine Mid.elemMap rfl rfl rfl h1 rfl rfl ?_
    refine fM rfl ?_
    refine lM rfl rfl rfl ?_
    refine fM rfl ?_
    refine Mid.elemMap rfl rfl rfl h1 rfl rfl ?_
    refine fM rfl ?_
    refine lM rfl rfl rfl ?_
    refine fM rfl ?_
    refine Run.condF rfl rfl (by simp) ?_
    refine fR rfl ?_
    refine rList p (fun k (_ : Unit) => { env := [(0, .t (.lst (l.map pE))), (1, .t (.lst (l.map pE))), (5, .t (.int .i64 i)), (6, .t (.int .i64 k))], s := ⟨[], 0⟩ }) (fun r i _ => True) 0 () rfl trivial rfl rfl rfl ?_ ?_
    · intro _ _
      refine fR rfl ?_
      refine Mid.elemMap rfl rfl rfl h1 rfl rfl ?_
      refine fM rfl ?_
      refine lM rfl rfl rfl ?_
      refine fM rfl ?_
      refine Run.condF rfl rfl (by simp) ?_
      refine fR rfl ?_
      refine aL rfl rfl rfl rfl rfl ?_
      refine fM rfl ?_
      exact rWeak 0 rfl (ih () trivial) rfl rfl rfl
    · intro k x r' _ hk1 hk hkd _ ihk
      refine fR rfl ?_
      refine Mid.elemMap rfl rfl rfl h1 rfl rfl ?_
      refine fM rfl ?_
      refine lM rfl rfl rfl ?_
      refine fM rfl ?_
      refine Run.condT rfl rfl (by simp; omega) ?_
      refine fR rfl ?_
      refine Mid.elemMap rfl rfl rfl h1 rfl rfl ?_
      refine fM rfl ?_
      refine Mid.elemMap rfl rfl rfl hk1 rfl rfl ?_
      refine fM rfl ?_
      refine Mid.elemMap rfl rfl rfl h1 rfl rfl ?_
      refine fM rfl ?_
      refine Mid.elemMap rfl rfl rfl hk1 rfl rfl ?_
      refine fM rfl ?_
      refine p0 rfl ?_
      refine fM rfl ?_
      refine Run.condF rfl rfl (by show (!(keyEq x.enc x.enc)) = false; rw [hop_eq]; simp) ?_
      refine fR rfl ?_
      refine aL rfl rfl rfl rfl rfl ?_
      refine fM rfl ?_
      exact rWeak 0 rfl (ihk () trivial) rfl rfl rfl
end Go.GB.C43

/-
  A43K: contracts of chapter 43's functions: a thing is the same as itself.
-/
namespace Go.GB.C43
open Go.GB
set_option linter.unusedSimpArgs false
set_option linter.unusedVariables false
set_option maxRecDepth 100000
set_option maxHeartbeats 2000000
variable {P : Program}

theorem less_irrefl : ∀ s : List UInt8, Op.bytesLess s s = false
  | [] => rfl
  | a :: r => by simp [Op.bytesLess, less_irrefl r]
theorem strings_refl (H : Pr P) (s : Str) : FnOk P 124 [.t (.str s), .t (.str s)] ⟨[], 0⟩ { v := .t (.int .i64 0) } := by
  refine FnOk.run H.i124 H.mixed rfl rfl ?_
  refine fR rfl ?_
  refine Run.condF rfl rfl (by simp [less_irrefl]) ?_
  refine fR rfl ?_
  refine Run.condF rfl rfl (by simp [less_irrefl]) ?_
  refine fR rfl ?_
  refine Run.fin rfl (EndOk.go ?_); exact .t rfl

def keyAt (v : Val) (i : Nat) : Str := (v.keys[i]?).getD []
theorem key_ok (H : Pr P) (v : Val) (hv : v.Ok) (i : Nat) (hi : i ≤ 140737488355328) : FnOk P 125 [v.v, .t (.int .i64 i)] ⟨[], 0⟩ { v := .t (.str (keyAt v i)) } := by
  have hkl := hv.kl
  refine FnOk.run H.i125 H.mixed rfl rfl ?_
  refine fR rfl ?_
  refine lM rfl rfl rfl ?_
  refine fM rfl ?_
  refine Run.cond rfl rfl (fun h => ?_) (fun h => ?_)
  · have h' : i < v.keys.length := by simpa using h
    have h1 : v.keys[i]? = some (v.keys[i]'h') := by simp
    have hk : keyAt v i = v.keys[i]'h' := by simp [keyAt, h1]
    generalize v.keys[i]'h' = x at h1 hk
    refine fR rfl ?_
    refine Mid.elemMap rfl rfl rfl h1 rfl rfl ?_
    refine fM rfl ?_
    refine Run.fin rfl (EndOk.go ?_); exact .t (by simp [hk])
  · have h' : ¬ i < v.keys.length := by simpa using h
    have hk : keyAt v i = [] := by simp [keyAt, List.getElem?_eq_none (Nat.le_of_not_lt h')]
    refine fR rfl ?_
    refine Run.fin rfl (EndOk.go ?_); exact .t (by simp [hk])

def CmpC (P : Program) (a : Val) : Prop := FnOk P 103 [a.v, a.v] ⟨[], 0⟩ { v := .t (.int .i64 0) }
theorem cmp_step (H : Pr P) (a : Val) (ha : a.Ok) (hrec : ∀ x, x ∈ a.items → CmpC P x) : CmpC P a := by
  have hil := ha.il
  have hkl := ha.kl
  unfold CmpC
  refine FnOk.run H.i103 H.mixed rfl rfl ?_
  refine fR rfl ?_
  refine Mid.call (ints_refl H a.kind) rfl rfl rfl rfl ?_
  refine fM rfl ?_
  refine Run.condT rfl rfl (by simp [less_irrefl]) ?_
  refine fR rfl ?_
  refine Mid.call (ints_refl H a.int) rfl rfl rfl rfl ?_
  refine fM rfl ?_
  refine Run.condT rfl rfl (by simp) ?_
  refine fR rfl ?_
  refine Mid.call (strings_refl H a.text) rfl rfl rfl rfl ?_
  refine fM rfl ?_
  refine rList a.items (fun i (_ : Unit) => { env := [(2, .ptr 0 0), (3, .ptr 1 0), (5, .t (.int .i64 0)), (6, .t (.int .i64 i))], s := ⟨[(0, .cells [.t (.int .i64 a.kind), .t (.int .i64 a.int), .t (.str a.text), .t (.lst (a.items.map Val.enc)), .t (.lst (a.keys.map sE))]), (1, .cells [.t (.int .i64 a.kind), .t (.int .i64 a.int), .t (.str a.text), .t (.lst (a.items.map Val.enc)), .t (.lst (a.keys.map sE))])], 2⟩ }) (fun r i _ => True) 2 () rfl trivial rfl rfl rfl ?_ ?_
  · intro _ _
    refine fR rfl ?_
    refine Run.condT rfl rfl (by simp) ?_
    refine fR rfl ?_
    refine lM rfl rfl rfl ?_
    refine fM rfl ?_
    refine lMG rfl rfl rfl rfl ?_
    refine fM rfl ?_
    refine Run.condT rfl rfl (by simp) ?_
    refine fR rfl ?_
    refine lM rfl rfl rfl ?_
    refine fM rfl ?_
    refine lM rfl rfl rfl ?_
    refine Mid.call (ints_refl H (a.items.length : Nat)) rfl rfl rfl rfl ?_
    refine fM rfl ?_
    refine Run.fin rfl (EndOk.go ?_); exact .t rfl
  · intro i x r _ h1 hi hd _ ih
    have hc := hrec x (List.mem_of_getElem? h1)
    unfold CmpC at hc
    refine fR rfl ?_
    refine Run.condT rfl rfl (by simp) ?_
    refine fR rfl ?_
    refine lM rfl rfl rfl ?_
    refine fM rfl ?_
    refine lMG rfl rfl rfl rfl ?_
    refine fM rfl ?_
    refine Run.condF rfl rfl (by simp; omega) ?_
    refine fR rfl ?_
    refine Mid.call (key_ok H a ha i (by omega)) rfl rfl rfl rfl ?_
    refine fM rfl ?_
    refine Mid.call (key_ok H a ha i (by omega)) rfl rfl rfl rfl ?_
    skip
    refine Mid.call (strings_refl H (keyAt a i)) rfl rfl rfl rfl ?_
    refine fM rfl ?_
    refine Run.condT rfl rfl (by simp) ?_
    refine fR rfl ?_
    refine Mid.elemMapC (Val.enc_eq x) rfl rfl rfl h1 rfl rfl ?_
    refine fM rfl ?_
    refine Mid.elemMapC (Val.enc_eq x) rfl rfl rfl h1 rfl rfl ?_
    refine fM rfl ?_
    refine Mid.call (hc) rfl rfl rfl rfl ?_
    refine fM rfl ?_
    refine aL rfl rfl rfl rfl rfl ?_
    refine fM rfl ?_
    exact rWeak 2 rfl (ih () trivial) rfl rfl rfl
theorem cmp_refl' (H : Pr P) : ∀ (k : Nat) (a : Val), SizeOf.sizeOf a ≤ k → a.Ok → CmpC P a
  | 0, a, h, _ => by cases a; simp at h
  | k + 1, a, h, ha => cmp_step H a ha fun x hx => cmp_refl' H k x (by have := Val.size_items a hx; omega) (ha.it x hx)
theorem cmp_refl (H : Pr P) (a : Val) (ha : a.Ok) : FnOk P 103 [a.v, a.v] ⟨[], 0⟩ { v := .t (.int .i64 0) } := cmp_refl' H _ a (Nat.le_refl _) ha
theorem sameV_refl (H : Pr P) (a : Val) (ha : a.Ok) : FnOk P 58 [a.v, a.v] ⟨[], 0⟩ { v := .t (.bool true) } := by
  refine FnOk.run H.i58 H.mixed rfl rfl ?_
  refine fR rfl ?_
  refine Mid.call (cmp_refl H a ha) rfl rfl rfl rfl ?_
  refine fM rfl ?_
  refine Run.fin rfl (EndOk.go ?_); exact .t (by simp)
end Go.GB.C43

/-
  A43L: contracts of chapter 43's functions: weights. Every loop of these stops as soon as the sum is over the limit.
-/
namespace Go.GB.C43
open Go.GB
set_option linter.unusedSimpArgs false
set_option linter.unusedVariables false
set_option maxRecDepth 100000
set_option maxHeartbeats 2000000
variable {P : Program}

/- a loop that stops when the sum passes n: the elements it sees, and the sum it ends with -/
def pre {α} (n : Int) (f : Int → α → Int) : Int → List α → List α
  | _, [] => []
  | t, x :: r => if t ≤ n then x :: pre n f (f t x) r else []
def tot {α} (n : Int) (f : Int → α → Int) : Int → List α → Int
  | t, [] => t
  | t, x :: r => if t ≤ n then tot n f (f t x) r else t
structure PreInv {α} (n : Int) (f : Int → α → Int) (l : List α) (T : Int) (r : List α) (i : Nat) (t : Int) : Prop where
  a : r = pre n f t (l.drop i)
  b : tot n f t (l.drop i) = T
theorem pre_init {α} (n : Int) (f : Int → α → Int) (l : List α) (t : Int) : PreInv n f l (tot n f t l) (pre n f t l) 0 t := ⟨by simp, by simp⟩
theorem pre_nil {α} {n : Int} {f : Int → α → Int} {l : List α} {T : Int} {i : Nat} {t : Int} (h : PreInv n f l T [] i t) : (¬ (i < l.length ∧ t ≤ n)) ∧ t = T := by
  obtain ⟨a, b⟩ := h
  by_cases hi : i < l.length
  · rw [List.drop_eq_getElem_cons hi] at a b
    by_cases ht : t ≤ n
    · simp [pre, ht] at a
    · simp [tot, ht] at b; exact ⟨by simp [ht], b⟩
  · rw [List.drop_eq_nil_of_le (by omega)] at b
    exact ⟨by simp [hi], by simpa [tot] using b⟩
theorem pre_cons {α} {n : Int} {f : Int → α → Int} {l : List α} {T : Int} {x : α} {r : List α} {i : Nat} {t : Int} (h : PreInv n f l T (x :: r) i t) :
    l[i]? = some x ∧ i < l.length ∧ t ≤ n ∧ PreInv n f l T r (i + 1) (f t x) := by
  obtain ⟨a, b⟩ := h
  by_cases hi : i < l.length
  · rw [List.drop_eq_getElem_cons hi] at a b
    by_cases ht : t ≤ n
    · simp [pre, ht] at a
      obtain ⟨a1, a2⟩ := a
      subst a1
      refine ⟨by simp, hi, ht, a2, ?_⟩
      simpa [tot, ht] using b
    · simp [pre, ht] at a
  · rw [List.drop_eq_nil_of_le (by omega)] at a
    simp [pre] at a

def fKey (t : Int) (k : Str) : Int := IntKind.i64.wrap (IntKind.i64.wrap (t + 1) + (k.length : Nat))
mutual
def wVal (n : Int) : Val → Int
  | .mk _ _ t its ks => wVals n (tot n fKey (IntKind.i64.wrap (1 + (t.length : Nat))) ks) its
def wVals (n : Int) : Int → List Val → Int
  | t, [] => t
  | t, v :: r => if t ≤ n then wVals n (IntKind.i64.wrap (t + wVal n v)) r else t
end
def fVal (n t : Int) (v : Val) : Int := IntKind.i64.wrap (t + wVal n v)
theorem wVals_tot (n : Int) : ∀ (l : List Val) (t : Int), wVals n t l = tot n (fVal n) t l
  | [], t => by simp [wVals, tot]
  | v :: r, t => by simp [wVals, tot, fVal, wVals_tot n r]
theorem wVal_eq (n : Int) : ∀ v : Val, wVal n v = tot n (fVal n) (tot n fKey (IntKind.i64.wrap (1 + (v.text.length : Nat))) v.keys) v.items
  | .mk _ _ t its ks => by simp [wVal, wVals_tot, Val.text, Val.keys, Val.items]

def WgtC (P : Program) (n : Int) (a : Val) : Prop := FnOk P 23 [a.v, .t (.int .i64 n)] ⟨[], 0⟩ { v := .t (.int .i64 (wVal n a)) }
theorem wVal_step (H : Pr P) (n : Int) (a : Val) (ha : a.Ok) (hrec : ∀ x, x ∈ a.items → WgtC P n x) : WgtC P n a := by
  have hil := ha.il
  have hkl := ha.kl
  have htl := ha.tl
  have hkt := ha.kt
  have hw := wVal_eq n a
  unfold WgtC
  refine FnOk.run H.i23 H.mixed rfl rfl ?_
  refine fR rfl ?_
  refine p0 rfl ?_
  refine fM rfl ?_
  refine rList (pre n fKey (IntKind.i64.wrap (1 + (a.text.length : Nat))) a.keys) (fun i (t : Int) => { env := [(1, .t (.int .i64 n)), (2, .ptr 0 0), (5, .t (.int .i64 t)), (6, .t (.int .i64 i))], s := ⟨[(0, .cells [.t (.int .i64 a.kind), .t (.int .i64 a.int), .t (.str a.text), .t (.lst (a.items.map Val.enc)), .t (.lst (a.keys.map sE))])], 1⟩ }) (fun r i t => PreInv n fKey a.keys (tot n fKey (IntKind.i64.wrap (1 + (a.text.length : Nat))) a.keys) r i t) 1 (IntKind.i64.wrap (1 + (a.text.length : Nat))) rfl (pre_init ..) rfl rfl rfl ?_ ?_
  · intro t ht
    obtain ⟨h1, h2⟩ := pre_nil ht
    rw [← h2] at hw
    refine fR rfl ?_
    refine lM rfl rfl rfl ?_
    refine fM rfl ?_
    refine Run.condF rfl rfl (by simp at h1 ⊢; omega) ?_
    refine fR rfl ?_
    refine rList (pre n (fVal n) t a.items) (fun i (t : Int) => { env := [(1, .t (.int .i64 n)), (2, .ptr 0 0), (5, .t (.int .i64 t)), (7, .t (.int .i64 i))], s := ⟨[(0, .cells [.t (.int .i64 a.kind), .t (.int .i64 a.int), .t (.str a.text), .t (.lst (a.items.map Val.enc)), .t (.lst (a.keys.map sE))])], 1⟩ }) (fun r i t' => PreInv n (fVal n) a.items (tot n (fVal n) t a.items) r i t') 1 t rfl (pre_init ..) rfl rfl rfl ?_ ?_
    · intro t ht
      obtain ⟨h1, h2⟩ := pre_nil ht
      refine fR rfl ?_
      refine lM rfl rfl rfl ?_
      refine fM rfl ?_
      refine Run.condF rfl rfl (by simp at h1 ⊢; omega) ?_
      refine fR rfl ?_
      refine Run.fin rfl (EndOk.go ?_); exact .t (by rw [hw, h2])
    · intro i x r t _ hi hd hinv ih
      obtain ⟨h1, hi', hle, hnx⟩ := pre_cons hinv
      have hc := hrec x (List.mem_of_getElem? h1)
      unfold WgtC at hc
      refine fR rfl ?_
      refine lM rfl rfl rfl ?_
      refine fM rfl ?_
      refine Run.condT rfl rfl (by simp; omega) ?_
      refine fR rfl ?_
      refine Mid.elemMapC (Val.enc_eq x) rfl rfl rfl h1 rfl rfl ?_
      refine fM rfl ?_
      refine Mid.call (hc) rfl rfl rfl rfl ?_
      refine p0 rfl ?_
      refine fM rfl ?_
      refine aL rfl rfl rfl rfl rfl ?_
      refine fM rfl ?_
      exact rWeak 1 rfl (ih (fVal n t x) hnx) rfl rfl rfl
  · intro i x r t _ hi hd hinv ih
    obtain ⟨h1, hi', hle, hnx⟩ := pre_cons hinv
    have hxl := hkt x (List.mem_of_getElem? h1)
    refine fR rfl ?_
    refine lM rfl rfl rfl ?_
    refine fM rfl ?_
    refine Run.condT rfl rfl (by simp; omega) ?_
    refine fR rfl ?_
    refine p0 rfl ?_
    refine fM rfl ?_
    refine Mid.elemMap rfl rfl rfl h1 rfl rfl ?_
    refine fM rfl ?_
    refine p0 rfl ?_
    refine fM rfl ?_
    refine aL rfl rfl rfl rfl rfl ?_
    refine fM rfl ?_
    exact rWeak 1 rfl (ih (fKey t x) hnx) rfl rfl rfl
theorem wVal_ok' (H : Pr P) (n : Int) : ∀ (k : Nat) (a : Val), SizeOf.sizeOf a ≤ k → a.Ok → WgtC P n a
  | 0, a, h, _ => by cases a; simp at h
  | k + 1, a, h, ha => wVal_step H n a ha fun x hx => wVal_ok' H n k x (by have := Val.size_items a hx; omega) (ha.it x hx)
theorem wVal_ok (H : Pr P) (n : Int) (a : Val) (ha : a.Ok) : FnOk P 23 [a.v, .t (.int .i64 n)] ⟨[], 0⟩ { v := .t (.int .i64 (wVal n a)) } := wVal_ok' H n _ a (Nat.le_refl _) ha
end Go.GB.C43

/-
  A43M: contracts of chapter 43's functions: weights of directives, inputs and schemas.
-/
namespace Go.GB.C43
open Go.GB
set_option linter.unusedSimpArgs false
set_option linter.unusedVariables false
set_option maxRecDepth 100000
set_option maxHeartbeats 2000000
variable {P : Program}

def wr (x : Int) : Int := IntKind.i64.wrap x
def fArg (n t : Int) (a : Arg) : Int := IntKind.i64.wrap (IntKind.i64.wrap (t + 1) + wVal n a.val)
def fDir (n t : Int) (d : Dir) : Int := tot n (fArg n) (IntKind.i64.wrap (t + 1)) d.args
def wDirs (n : Int) (l : List Dir) : Int := tot n (fDir n) 0 l
theorem weightDirs_ok (H : Pr P) (n : Int) (l : List Dir) (hl : l.length ≤ 140737488355328) (hd : ∀ d, d ∈ l → d.Ok) :
    FnOk P 88 [.t (.lst (l.map Dir.enc)), .t (.int .i64 n)] ⟨[], 0⟩ { v := .t (.int .i64 (wDirs n l)) } := by
  have hw : wDirs n l = tot n (fDir n) 0 l := rfl
  refine FnOk.run H.i88 H.mixed rfl rfl ?_
  refine fR rfl ?_
  refine rList (pre n (fDir n) 0 l) (fun i (t : Int) => { env := [(0, .t (.lst (l.map Dir.enc))), (1, .t (.int .i64 n)), (5, .t (.int .i64 t)), (6, .t (.int .i64 i))], s := ⟨[], 0⟩ }) (fun r i t => PreInv n (fDir n) l (tot n (fDir n) 0 l) r i t) 0 0 rfl (pre_init ..) rfl rfl rfl ?_ ?_
  · intro t ht
    obtain ⟨h1, h2⟩ := pre_nil ht
    refine fR rfl ?_
    refine lM rfl rfl rfl ?_
    refine fM rfl ?_
    refine Run.condF rfl rfl (by simp at h1 ⊢; omega) ?_
    refine fR rfl ?_
    refine Run.fin rfl (EndOk.go ?_); exact .t (by rw [hw, h2])
  · intro i d r t _ hi hdd hinv ih
    obtain ⟨h1, hi', hle, hnx⟩ := pre_cons hinv
    have hdo := hd d (List.mem_of_getElem? h1)
    have hal := hdo.l
    refine fR rfl ?_
    refine lM rfl rfl rfl ?_
    refine fM rfl ?_
    refine Run.condT rfl rfl (by simp; omega) ?_
    refine fR rfl ?_
    refine p0 rfl ?_
    refine fM rfl ?_
    refine rList (pre n (fArg n) (IntKind.i64.wrap (t + 1)) d.args) (fun j (t : Int) => { env := [(0, .t (.lst (l.map Dir.enc))), (1, .t (.int .i64 n)), (5, .t (.int .i64 t)), (6, .t (.int .i64 i)), (7, .t (.int .i64 j))], s := ⟨[], 0⟩ }) (fun r j t' => PreInv n (fArg n) d.args (fDir n t d) r j t') 0 (IntKind.i64.wrap (t + 1)) rfl (pre_init ..) rfl rfl rfl ?_ ?_
    · intro t' ht'
      obtain ⟨h1', h2'⟩ := pre_nil ht'
      refine fR rfl ?_
      refine Mid.elemMap rfl rfl rfl h1 rfl rfl ?_
      refine fM rfl ?_
      refine lM rfl rfl rfl ?_
      refine fM rfl ?_
      refine Run.condF rfl rfl (by simp at h1' ⊢; omega) ?_
      refine fR rfl ?_
      refine aL rfl rfl rfl rfl rfl ?_
      refine fM rfl ?_
      exact rWeak 0 rfl (ih t' (by rw [h2']; exact hnx)) rfl rfl rfl
    · intro j a r' t' _ hj hdd' hinv' ih'
      obtain ⟨k1, kj, kle, knx⟩ := pre_cons hinv'
      have hao : a.val.Ok := hdo.a a (List.mem_of_getElem? k1)
      refine fR rfl ?_
      refine Mid.elemMap rfl rfl rfl h1 rfl rfl ?_
      refine fM rfl ?_
      refine lM rfl rfl rfl ?_
      refine fM rfl ?_
      refine Run.condT rfl rfl (by simp; omega) ?_
      refine fR rfl ?_
      refine p0 rfl ?_
      refine fM rfl ?_
      refine Mid.elemMap rfl rfl rfl h1 rfl rfl ?_
      refine fM rfl ?_
      refine Mid.elemMap rfl rfl rfl k1 rfl rfl ?_
      refine fM rfl ?_
      refine Mid.call (wVal_ok H n a.val hao) rfl rfl rfl rfl ?_
      refine p0 rfl ?_
      refine fM rfl ?_
      refine aL rfl rfl rfl rfl rfl ?_
      refine fM rfl ?_
      exact rWeak 0 rfl (ih' (fArg n t' a) knx) rfl rfl rfl

def fInp (n t : Int) (x : Input) : Int := IntKind.i64.wrap (IntKind.i64.wrap (IntKind.i64.wrap (IntKind.i64.wrap (t + 1) + (x.ty.wraps.length : Nat)) + wVal n x.dflt) + wDirs n x.dirs)
def wInps (n : Int) (l : List Input) : Int := tot n (fInp n) 0 l
theorem weightInputs_ok (H : Pr P) (n : Int) (l : List Input) (hl : l.length ≤ 140737488355328) (hd : ∀ d, d ∈ l → d.Ok) :
    FnOk P 89 [.t (.lst (l.map Input.enc)), .t (.int .i64 n)] ⟨[], 0⟩ { v := .t (.int .i64 (wInps n l)) } := by
  have hw : wInps n l = tot n (fInp n) 0 l := rfl
  refine FnOk.run H.i89 H.mixed rfl rfl ?_
  refine fR rfl ?_
  refine rList (pre n (fInp n) 0 l) (fun i (t : Int) => { env := [(0, .t (.lst (l.map Input.enc))), (1, .t (.int .i64 n)), (5, .t (.int .i64 t)), (6, .t (.int .i64 i))], s := ⟨[], 0⟩ }) (fun r i t => PreInv n (fInp n) l (tot n (fInp n) 0 l) r i t) 0 0 rfl (pre_init ..) rfl rfl rfl ?_ ?_
  · intro t ht
    obtain ⟨h1, h2⟩ := pre_nil ht
    refine fR rfl ?_
    refine lM rfl rfl rfl ?_
    refine fM rfl ?_
    refine Run.condF rfl rfl (by simp at h1 ⊢; omega) ?_
    refine fR rfl ?_
    refine Run.fin rfl (EndOk.go ?_); exact .t (by rw [hw, h2])
  · intro i x r t _ hi hdd hinv ih
    obtain ⟨h1, hi', hle, hnx⟩ := pre_cons hinv
    have hxo := hd x (List.mem_of_getElem? h1)
    have hwl := hxo.t.l
    have hdl := hxo.l
    refine fR rfl ?_
    refine lM rfl rfl rfl ?_
    refine fM rfl ?_
    refine Run.condT rfl rfl (by simp; omega) ?_
    refine fR rfl ?_
    refine p0 rfl ?_
    refine fM rfl ?_
    refine Mid.elemMap rfl rfl rfl h1 rfl rfl ?_
    refine fM rfl ?_
    refine lM rfl rfl rfl ?_
    refine p0 rfl ?_
    refine fM rfl ?_
    refine Mid.elemMap rfl rfl rfl h1 rfl rfl ?_
    refine fM rfl ?_
    refine Mid.call (wVal_ok H n x.dflt hxo.v) rfl rfl rfl rfl ?_
    refine p0 rfl ?_
    refine fM rfl ?_
    refine Mid.elemMap rfl rfl rfl h1 rfl rfl ?_
    refine fM rfl ?_
    refine Mid.call (weightDirs_ok H n x.dirs hdl hxo.d) rfl rfl rfl rfl ?_
    refine p0 rfl ?_
    refine fM rfl ?_
    refine aL rfl rfl rfl rfl rfl ?_
    refine fM rfl ?_
    exact rWeak 0 rfl (ih (fInp n t x) hnx) rfl rfl rfl
end Go.GB.C43

/-
  A43N: contract of chapter 43's function 46: the weight of a schema.
-/
namespace Go.GB.C43
open Go.GB
set_option linter.unusedSimpArgs false
set_option linter.unusedVariables false
set_option maxRecDepth 100000
set_option maxHeartbeats 2000000
variable {P : Program}

def fFld (n t : Int) (x : Field) : Int := IntKind.i64.wrap (IntKind.i64.wrap (IntKind.i64.wrap (IntKind.i64.wrap (t + 1) + (x.ty.wraps.length : Nat)) + wInps n x.args) + wDirs n x.dirs)
def fMem (n t : Int) (x : Member) : Int := IntKind.i64.wrap (IntKind.i64.wrap (t + 1) + wDirs n x.dirs)
def defT (n t : Int) (d : Def) : Int := IntKind.i64.wrap (IntKind.i64.wrap (IntKind.i64.wrap (t + (d.implements.length : Nat)) + wDirs n d.dirs) + wInps n d.inputs)
def fDef (n t : Int) (d : Def) : Int := tot n (fMem n) (tot n (fFld n) (defT n t d) d.fields) d.members
def wDoc (n : Int) (ds : List Def) : Int := tot n (fDef n) (ds.length : Nat) ds
theorem weightDoc_ok (H : Pr P) (n : Int) (ds : List Def) (hD : DocOk ds) : FnOk P 46 [docV ds, .t (.int .i64 n)] ⟨[], 0⟩ { v := .t (.int .i64 (wDoc n ds)) } := by
  have hl := hD.l
  have hw : wDoc n ds = tot n (fDef n) (ds.length : Nat) ds := rfl
  refine FnOk.run H.i46 H.mixed rfl rfl ?_
  refine fR rfl ?_
  refine lM rfl rfl rfl ?_
  refine fM rfl ?_
  refine rList (pre n (fDef n) (ds.length : Nat) ds) (fun i (t : Int) => { env := [(1, .t (.int .i64 n)), (2, .ptr 0 0), (5, .t (.int .i64 t)), (6, .t (.int .i64 i))], s := ⟨[(0, .cells [.t (.lst (ds.map Def.enc))])], 1⟩ }) (fun r i t => PreInv n (fDef n) ds (tot n (fDef n) (ds.length : Nat) ds) r i t) 1 (ds.length : Nat) rfl (pre_init ..) rfl rfl rfl ?_ ?_
  · intro t ht
    obtain ⟨h1, h2⟩ := pre_nil ht
    refine fR rfl ?_
    refine lM rfl rfl rfl ?_
    refine fM rfl ?_
    refine Run.condF rfl rfl (by simp at h1 ⊢; omega) ?_
    refine fR rfl ?_
    refine Run.fin rfl (EndOk.go ?_); exact .t (by rw [hw, h2])
  · intro i d r t _ hi hdd hinv ih
    obtain ⟨h1, hi', hle, hnx⟩ := pre_cons hinv
    have hdo := hD.d d (List.mem_of_getElem? h1)
    have q1 := hdo.il
    have q2 := hdo.dl
    have q3 := hdo.fl
    have q4 := hdo.ml
    have q5 := hdo.nl
    refine fR rfl ?_
    refine lM rfl rfl rfl ?_
    refine fM rfl ?_
    refine Run.condT rfl rfl (by simp; omega) ?_
    refine fR rfl ?_
    refine Mid.elemMap rfl rfl rfl h1 rfl rfl ?_
    refine fM rfl ?_
    refine lM rfl rfl rfl ?_
    refine p0 rfl ?_
    refine fM rfl ?_
    refine Mid.call (weightDirs_ok H n d.dirs q2 hdo.d) rfl rfl rfl rfl ?_
    refine p0 rfl ?_
    refine fM rfl ?_
    refine Mid.call (weightInputs_ok H n d.inputs q5 hdo.n) rfl rfl rfl rfl ?_
    refine p0 rfl ?_
    refine fM rfl ?_
    refine rList (pre n (fFld n) (defT n t d) d.fields) (fun j (t : Int) => { env := [(1, .t (.int .i64 n)), (2, .ptr 0 0), (5, .t (.int .i64 t)), (6, .t (.int .i64 i)), (7, .ptr 1 0), (8, .t (.int .i64 j))], s := ⟨[(1, .cells [.t (.int .i64 d.kind), .t (.str d.name), .t (.lst (d.implements.map sE)), .t (.lst (d.dirs.map Dir.enc)), .t (.lst (d.fields.map Field.enc)), .t (.lst (d.members.map Member.enc)), .t (.lst (d.inputs.map Input.enc))]), (0, .cells [.t (.lst (ds.map Def.enc))])], 2⟩ }) (fun r j t' => PreInv n (fFld n) d.fields (tot n (fFld n) (defT n t d) d.fields) r j t') 2 (defT n t d) rfl (pre_init ..) rfl rfl rfl ?_ ?_
    · intro t1 ht1
      obtain ⟨h1', h2'⟩ := pre_nil ht1
      refine fR rfl ?_
      refine lM rfl rfl rfl ?_
      refine fM rfl ?_
      refine Run.condF rfl rfl (by simp at h1' ⊢; omega) ?_
      refine fR rfl ?_
      refine rList (pre n (fMem n) t1 d.members) (fun j (t : Int) => { env := [(1, .t (.int .i64 n)), (2, .ptr 0 0), (5, .t (.int .i64 t)), (6, .t (.int .i64 i)), (7, .ptr 1 0), (9, .t (.int .i64 j))], s := ⟨[(1, .cells [.t (.int .i64 d.kind), .t (.str d.name), .t (.lst (d.implements.map sE)), .t (.lst (d.dirs.map Dir.enc)), .t (.lst (d.fields.map Field.enc)), .t (.lst (d.members.map Member.enc)), .t (.lst (d.inputs.map Input.enc))]), (0, .cells [.t (.lst (ds.map Def.enc))])], 2⟩ }) (fun r j t' => PreInv n (fMem n) d.members (tot n (fMem n) t1 d.members) r j t') 2 t1 rfl (pre_init ..) rfl rfl rfl ?_ ?_
      · intro t2 ht2
        obtain ⟨h1'', h2''⟩ := pre_nil ht2
        refine fR rfl ?_
        refine lM rfl rfl rfl ?_
        refine fM rfl ?_
        refine Run.condF rfl rfl (by simp at h1'' ⊢; omega) ?_
        refine fR rfl ?_
        refine aL rfl rfl rfl rfl rfl ?_
        refine fM rfl ?_
        exact rWeak 1 rfl (ih t2 (by rw [h2'', h2']; exact hnx)) rfl rfl rfl
      · intro j x r' t' _ hj hdd' hinv' ih'
        obtain ⟨k1, kj, kle, knx⟩ := pre_cons hinv'
        have hxo := hdo.m x (List.mem_of_getElem? k1)
        refine fR rfl ?_
        refine lM rfl rfl rfl ?_
        refine fM rfl ?_
        refine Run.condT rfl rfl (by simp; omega) ?_
        refine fR rfl ?_
        refine p0 rfl ?_
        refine fM rfl ?_
        refine Mid.elemMap rfl rfl rfl k1 rfl rfl ?_
        refine fM rfl ?_
        refine Mid.call (weightDirs_ok H n x.dirs hxo.l hxo.d) rfl rfl rfl rfl ?_
        refine p0 rfl ?_
        refine fM rfl ?_
        refine aL rfl rfl rfl rfl rfl ?_
        refine fM rfl ?_
        exact rWeak 2 rfl (ih' (fMem n t' x) knx) rfl rfl rfl
    · intro j x r' t' _ hj hdd' hinv' ih'
      obtain ⟨k1, kj, kle, knx⟩ := pre_cons hinv'
      have hxo := hdo.f x (List.mem_of_getElem? k1)
      have hwl := hxo.t.l
      refine fR rfl ?_
      refine lM rfl rfl rfl ?_
      refine fM rfl ?_
      refine Run.condT rfl rfl (by simp; omega) ?_
      refine fR rfl ?_
      refine p0 rfl ?_
      refine fM rfl ?_
      refine Mid.elemMap rfl rfl rfl k1 rfl rfl ?_
      refine fM rfl ?_
      refine lM rfl rfl rfl ?_
      refine p0 rfl ?_
      refine fM rfl ?_
      refine Mid.elemMap rfl rfl rfl k1 rfl rfl ?_
      refine fM rfl ?_
      refine Mid.call (weightInputs_ok H n x.args hxo.al hxo.a) rfl rfl rfl rfl ?_
      refine p0 rfl ?_
      refine fM rfl ?_
      refine Mid.elemMap rfl rfl rfl k1 rfl rfl ?_
      refine fM rfl ?_
      refine Mid.call (weightDirs_ok H n x.dirs hxo.l hxo.d) rfl rfl rfl rfl ?_
      refine p0 rfl ?_
      refine fM rfl ?_
      refine aL rfl rfl rfl rfl rfl ?_
      refine fM rfl ?_
      exact rWeak 2 rfl (ih' (fFld n t' x) knx) rfl rfl rfl
end Go.GB.C43

/-
  A43O: contracts of chapter 43's functions: deep, permitted, left, known.
-/
namespace Go.GB.C43
open Go.GB
set_option linter.unusedSimpArgs false
set_option linter.unusedVariables false
set_option maxRecDepth 100000
set_option maxHeartbeats 2000000
variable {P : Program}

/- deep: the number of picks, 201 for what lies too deep -/
def deepF : Nat → List Pick → Int
  | 0, _ => 201
  | k + 1, l => tot 200 (fun t p => IntKind.i64.wrap (t + deepF k p.picks)) (l.length : Nat) l
def fDeep (k : Nat) (t : Int) (p : Pick) : Int := IntKind.i64.wrap (t + deepF k p.picks)
theorem deepF_succ (k : Nat) (l : List Pick) : deepF (k + 1) l = tot 200 (fDeep k) (l.length : Nat) l := rfl
theorem deep_ok (H : Pr P) : ∀ (k : Nat) (l : List Pick) (lev : Int), l.length ≤ 140737488355328 → (∀ p, p ∈ l → p.Ok) → k ≤ 31 → lev = 31 - (k : Nat) →
    FnOk P 27 [.t (.lst (l.map Pick.enc)), .t (.int .i64 lev)] ⟨[], 0⟩ { v := .t (.int .i64 (deepF k l)) }
  | 0, l, lev, hl, hO, hk, he => by
    refine FnOk.run H.i27 H.mixed rfl rfl ?_
    refine fR rfl ?_
    refine Run.condT rfl rfl (by simp [he]) ?_
    refine fR rfl ?_
    refine Run.fin rfl (EndOk.go ?_); exact .t rfl
  | k + 1, l, lev, hl, hO, hk, he => by
    have hw := deepF_succ k l
    refine FnOk.run H.i27 H.mixed rfl rfl ?_
    refine fR rfl ?_
    refine Run.condF rfl rfl (by simp; omega) ?_
    refine fR rfl ?_
    refine lM rfl rfl rfl ?_
    refine fM rfl ?_
    refine rList (pre 200 (fDeep k) (l.length : Nat) l) (fun i (t : Int) => { env := [(0, .t (.lst (l.map Pick.enc))), (1, .t (.int .i64 lev)), (5, .t (.int .i64 t)), (6, .t (.int .i64 i))], s := ⟨[], 0⟩ }) (fun r i t => PreInv 200 (fDeep k) l (tot 200 (fDeep k) (l.length : Nat) l) r i t) 0 (l.length : Nat) rfl (pre_init ..) rfl rfl rfl ?_ ?_
    · intro t ht
      obtain ⟨h1, h2⟩ := pre_nil ht
      refine fR rfl ?_
      refine lM rfl rfl rfl ?_
      refine fM rfl ?_
      refine Run.condF rfl rfl (by simp at h1 ⊢; omega) ?_
      refine fR rfl ?_
      refine Run.fin rfl (EndOk.go ?_); exact .t (by rw [hw, h2])
    · intro i x r t _ hi hd hinv ih
      obtain ⟨h1, hi', hle, hnx⟩ := pre_cons hinv
      have hx := hO x (List.mem_of_getElem? h1)
      have hc := deep_ok H k x.picks (lev + 1) (by have := hx.pl; omega) hx.p (by omega) (by omega)
      refine fR rfl ?_
      refine lM rfl rfl rfl ?_
      refine fM rfl ?_
      refine Run.condT rfl rfl (by simp; omega) ?_
      refine fR rfl ?_
      refine Mid.elemMapC (Pick.enc_eq x) rfl rfl rfl h1 rfl rfl ?_
      refine fM rfl ?_
      refine a64 rfl rfl rfl ?_
      refine Mid.call (hc) rfl rfl rfl rfl ?_
      refine p0 rfl ?_
      refine fM rfl ?_
      refine aL rfl rfl rfl rfl rfl ?_
      refine fM rfl ?_
      exact rWeak 0 rfl (ih (fDeep k t x) hnx) rfl rfl rfl

mutual
def permP (m : Str → Str → Bool) : Pick → Bool
  | .mk _ o n _ _ _ _ ps => m o n && perms m ps
def perms (m : Str → Str → Bool) : List Pick → Bool
  | [] => true
  | p :: r => permP m p && perms m r
end
theorem permP_eq (m : Str → Str → Bool) (p : Pick) : permP m p = (m p.on p.name && perms m p.picks) := by cases p; simp [permP, Pick.on, Pick.name, Pick.picks]
def PermC (P : Program) (ds : List Def) (u : User) (l : List Pick) : Prop := FnOk P 28 [docV ds, .t (.lst (l.map Pick.enc)), u.v] ⟨[], 0⟩ { v := .t (.bool (perms (mayP ds u) l)) }
theorem permitted_step (H : Pr P) (ds : List Def) (ho : DocOk ds) (u : User) (hu : u.scopes.length ≤ 140737488355328) (l : List Pick) (hl : l.length ≤ 140737488355328) (hO : ∀ p, p ∈ l → p.Ok)
    (hrec : ∀ p, p ∈ l → PermC P ds u p.picks) : PermC P ds u l := by
  unfold PermC
  refine FnOk.run H.i28 H.mixed rfl rfl ?_
  refine fR rfl ?_
  refine rList l (fun i (_ : Unit) => { env := [(1, .t (.lst (l.map Pick.enc))), (3, .ptr 0 0), (5, .ptr 1 0), (7, .t (.int .i64 i))], s := ⟨[(0, .cells [.t (.lst (ds.map Def.enc))]), (1, .cells [.t (.bool u.known), .t (.lst (u.scopes.map sE))])], 2⟩ }) (fun r i _ => perms (mayP ds u) l = perms (mayP ds u) r) 2 () rfl rfl rfl rfl rfl ?_ ?_
  · intro _ hh
    refine fR rfl ?_
    refine lM rfl rfl rfl ?_
    refine fM rfl ?_
    refine Run.condF rfl rfl (by simp) ?_
    refine fR rfl ?_
    refine Run.fin rfl (EndOk.go ?_); exact .t (by simp [hh, perms])
  · intro i x r _ h1 hi hd hinv ih
    have hxm := List.mem_of_getElem? h1
    have hx := hO x hxm
    have hc := hrec x hxm
    unfold PermC at hc
    have hpe := permP_eq (mayP ds u) x
    refine fR rfl ?_
    refine lM rfl rfl rfl ?_
    refine fM rfl ?_
    refine Run.condT rfl rfl (by simp; omega) ?_
    refine fR rfl ?_
    refine Mid.elemMapC (Pick.enc_eq x) rfl rfl rfl h1 rfl rfl ?_
    refine fM rfl ?_
    refine Mid.elemMapC (Pick.enc_eq x) rfl rfl rfl h1 rfl rfl ?_
    refine fM rfl ?_
    refine Mid.call (may_ok H ds ho x.on x.name u hu) rfl rfl rfl rfl ?_
    refine fM rfl ?_
    refine Mid.elemMapCG (Pick.enc_eq x) rfl rfl rfl rfl h1 rfl (by (repeat' (first | exact trivial | exact Bool.not_or_self _ | exact grd1 _ | exact grd2 _ | exact grd3 _ _ | exact grd4 _ _ | refine And.intro ?_ ?_ | exact rfl | (simp; done) | (simp <;> omega))); done) (by (repeat' (first | exact trivial | exact Bool.not_or_self _ | exact grd1 _ | exact grd2 _ | exact grd3 _ _ | exact grd4 _ _ | refine And.intro ?_ ?_ | exact rfl | (simp; done) | (simp <;> omega))); done) rfl ?_
    refine fM rfl ?_
    refine caG rfl rfl (fun hg => ⟨_, rfl, hc, rfl⟩) rfl rfl ?_
    refine fM rfl ?_
    refine Run.cond rfl rfl (fun hm => ?_) (fun hm => ?_)
    · have : permP (mayP ds u) x = false := by
        rw [hpe]; revert hm; cases mayP ds u x.on x.name <;> cases perms (mayP ds u) x.picks <;> simp
      refine fR rfl ?_
      refine Run.fin rfl (EndOk.go ?_); exact .t (by simp [hinv, perms, this])
    · have : permP (mayP ds u) x = true := by
        rw [hpe]; revert hm; cases mayP ds u x.on x.name <;> cases perms (mayP ds u) x.picks <;> simp
      refine fR rfl ?_
      refine aL rfl rfl rfl rfl rfl ?_
      refine fM rfl ?_
      exact rWeak 2 rfl (ih () (by rw [hinv]; simp [perms, this])) rfl rfl rfl
theorem permitted_ok (H : Pr P) (ds : List Def) (ho : DocOk ds) (u : User) (hu : u.scopes.length ≤ 140737488355328) : ∀ (k : Nat) (l : List Pick), SizeOf.sizeOf l ≤ k → l.length ≤ 140737488355328 → (∀ p, p ∈ l → p.Ok) → PermC P ds u l
  | 0, l, h, _, _ => by cases l <;> simp at h
  | k + 1, l, h, hl, hO => permitted_step H ds ho u hu l hl hO fun p hp => permitted_ok H ds ho u hu k p.picks (by
      have h1 := List.sizeOf_lt_of_mem hp
      have h2 : SizeOf.sizeOf p.picks < SizeOf.sizeOf p := by cases p; simp [Pick.picks]; omega
      omega) (by have := (hO p hp).pl; omega) (hO p hp).p
end Go.GB.C43
