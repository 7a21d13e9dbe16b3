/-
  YtkhekeacdnhkpaaP5: lemmas of this proof (part 5). No conditions.
-/
import Derived.Test.YtkhekeacdnhkpaaP4
import Derived.Maps.RangeRun
import Derived.Test.YtkhekeacdnhkpaaP3

/-
  GbApi: the plain types of package api as data, and how they lie in cells.
-/
namespace Go.GB
abbrev Str := List UInt8
def sE (s : Str) : List T := [.str s]
def iE (n : Int) : T := .int .i64 n
def nE (n : Int) : List T := [.int .i64 n]
theorem sE_ok : KeyEnc [.str] sE := ⟨fun _ => rfl, fun x y h => by simpa [sE, keyEq, T.eqb] using h, fun x => by simp [sE, keyEq, T.eqb]⟩

inductive Val where
  | mk (kind int : Int) (text : Str) (items : List Val) (keys : List Str)
namespace Val
def kind : Val → Int | .mk k _ _ _ _ => k
def int : Val → Int | .mk _ k _ _ _ => k
def text : Val → Str | .mk _ _ k _ _ => k
def items : Val → List Val | .mk _ _ _ k _ => k
def keys : Val → List Str | .mk _ _ _ _ k => k
mutual
def enc : Val → List T
  | .mk k i t its ks => [.int .i64 k, .int .i64 i, .str t, .lst (encs its), .lst (ks.map sE)]
def encs : List Val → List (List T)
  | [] => []
  | v :: r => v.enc :: encs r
end
theorem encs_map : ∀ l : List Val, encs l = l.map enc
  | [] => by simp [encs]
  | v :: r => by simp [encs, encs_map r]
/-- the cells of a value -/
def cs (v : Val) : List T := [.int .i64 v.kind, .int .i64 v.int, .str v.text, .lst (v.items.map enc), .lst (v.keys.map sE)]
theorem enc_eq (v : Val) : v.enc = v.cs := by
  cases v; simp [enc, cs, kind, int, text, items, keys, encs_map]
def v (x : Val) : V := .agg [.t (.int .i64 x.kind), .t (.int .i64 x.int), .t (.str x.text), .t (.lst (x.items.map enc)), .t (.lst (x.keys.map sE))]
theorem eta : ∀ v : Val, Val.mk v.kind v.int v.text v.items v.keys = v
  | .mk .. => rfl
theorem size_items : ∀ (v : Val) {x : Val}, x ∈ v.items → SizeOf.sizeOf x < SizeOf.sizeOf v
  | .mk k i t its ks, x, h => by
    have := List.sizeOf_lt_of_mem h
    simp only [items] at this
    simp only [Val.mk.sizeOf_spec]; omega
end Val
structure Ref where
  name : Str
  wraps : List Int
structure Arg where
  name : Str
  val : Val
def Arg.enc (a : Arg) : List T := [.str a.name, .int .i64 a.val.kind, .int .i64 a.val.int, .str a.val.text, .lst (a.val.items.map Val.enc), .lst (a.val.keys.map sE)]
structure Dir where
  name : Str
  args : List Arg
def Dir.enc (d : Dir) : List T := [.str d.name, .lst (d.args.map Arg.enc)]
structure Input where
  name : Str
  ty : Ref
  has : Bool
  dflt : Val
  dirs : List Dir
def Input.enc (x : Input) : List T := [.str x.name, .str x.ty.name, .lst (x.ty.wraps.map nE), .bool x.has, .int .i64 x.dflt.kind, .int .i64 x.dflt.int, .str x.dflt.text, .lst (x.dflt.items.map Val.enc), .lst (x.dflt.keys.map sE), .lst (x.dirs.map Dir.enc)]
structure Field where
  name : Str
  args : List Input
  ty : Ref
  dirs : List Dir
def Field.enc (f : Field) : List T := [.str f.name, .lst (f.args.map Input.enc), .str f.ty.name, .lst (f.ty.wraps.map nE), .lst (f.dirs.map Dir.enc)]
structure Member where
  name : Str
  dirs : List Dir
def Member.enc (m : Member) : List T := [.str m.name, .lst (m.dirs.map Dir.enc)]
structure Def where
  kind : Int
  name : Str
  implements : List Str
  dirs : List Dir
  fields : List Field
  members : List Member
  inputs : List Input
def Def.enc (d : Def) : List T := [.int .i64 d.kind, .str d.name, .lst (d.implements.map sE), .lst (d.dirs.map Dir.enc), .lst (d.fields.map Field.enc), .lst (d.members.map Member.enc), .lst (d.inputs.map Input.enc)]
structure Hop where
  on : Str
  key : Str
def Hop.enc (h : Hop) : List T := [.str h.on, .str h.key]
structure User where
  known : Bool
  scopes : List Str
inductive Pick where
  | mk (key on name : Str) (args : List Arg) (ty : Ref) (label : Str) (initial : Int) (picks : List Pick)
namespace Pick
def key : Pick → Str | .mk k _ _ _ _ _ _ _ => k
def on : Pick → Str | .mk _ k _ _ _ _ _ _ => k
def name : Pick → Str | .mk _ _ k _ _ _ _ _ => k
def args : Pick → List Arg | .mk _ _ _ k _ _ _ _ => k
def ty : Pick → Ref | .mk _ _ _ _ k _ _ _ => k
def label : Pick → Str | .mk _ _ _ _ _ k _ _ => k
def initial : Pick → Int | .mk _ _ _ _ _ _ k _ => k
def picks : Pick → List Pick | .mk _ _ _ _ _ _ _ k => k
mutual
def enc : Pick → List T
  | .mk k o n a t l i ps => [.str k, .str o, .str n, .lst (a.map Arg.enc), .str t.name, .lst (t.wraps.map nE), .str l, .int .i64 i, .lst (encs ps)]
def encs : List Pick → List (List T)
  | [] => []
  | v :: r => v.enc :: encs r
end
theorem encs_map : ∀ l : List Pick, encs l = l.map enc
  | [] => by simp [encs]
  | v :: r => by simp [encs, encs_map r]
def cs (v : Pick) : List T := [.str v.key, .str v.on, .str v.name, .lst (v.args.map Arg.enc), .str v.ty.name, .lst (v.ty.wraps.map nE), .str v.label, .int .i64 v.initial, .lst (v.picks.map enc)]
theorem enc_eq (v : Pick) : v.enc = v.cs := by
  cases v; simp [enc, cs, key, on, name, args, ty, label, initial, picks, encs_map]
theorem eta : ∀ v : Pick, Pick.mk v.key v.on v.name v.args v.ty v.label v.initial v.picks = v
  | .mk .. => rfl
theorem size_picks : ∀ (v : Pick) {x : Pick}, x ∈ v.picks → SizeOf.sizeOf x < SizeOf.sizeOf v
  | .mk k o n a t l i ps, x, h => by
    have := List.sizeOf_lt_of_mem h
    simp only [picks] at this
    simp only [Pick.mk.sizeOf_spec]; omega
end Pick

/- sizes: no list takes more than 2 ^ 47 bytes -/
def B47 : Nat := 140737488355328
inductive Val.Ok : Val → Prop where
  | mk {k i : Int} {t : Str} {its : List Val} {ks : List Str} (h1 : its.length * 80 ≤ B47) (h2 : ks.length * 16 ≤ B47) (h3 : ∀ x, x ∈ its → Val.Ok x) (h4 : t.length ≤ 140737488355328) (h5 : ∀ x, x ∈ ks → x.length ≤ 140737488355328) : Val.Ok (.mk k i t its ks)
namespace Val.Ok
theorem il {v : Val} (h : v.Ok) : v.items.length * 80 ≤ 140737488355328 := by cases h with | mk h1 h2 h3 => exact h1
theorem kl {v : Val} (h : v.Ok) : v.keys.length * 16 ≤ 140737488355328 := by cases h with | mk h1 h2 h3 => exact h2
theorem it {v : Val} (h : v.Ok) : ∀ x, x ∈ v.items → x.Ok := by cases h with | mk h1 h2 h3 => exact h3
theorem tl {v : Val} (h : v.Ok) : v.text.length ≤ 140737488355328 := by cases h with | mk h1 h2 h3 h4 => exact h4
theorem kt {v : Val} (h : v.Ok) : ∀ x, x ∈ v.keys → x.length ≤ 140737488355328 := by cases h with | mk h1 h2 h3 h4 h5 => exact h5
end Val.Ok
def Val.zero : Val := .mk 0 0 [] [] []
theorem Val.zero_ok : Val.zero.Ok := .mk (by decide) (by decide) (by simp) (by decide) (by simp)
def Arg.Ok (a : Arg) : Prop := a.val.Ok
structure Dir.Ok (d : Dir) : Prop where
  l : d.args.length ≤ 140737488355328
  a : ∀ x, x ∈ d.args → x.Ok
  nm : d.name.length ≤ 140737488355328
structure Ref.Ok (r : Ref) : Prop where
  l : r.wraps.length * 8 ≤ 140737488355328
  nm : r.name.length ≤ 140737488355328
structure Input.Ok (x : Input) : Prop where
  t : x.ty.Ok
  v : x.dflt.Ok
  l : x.dirs.length ≤ 140737488355328
  d : ∀ y, y ∈ x.dirs → y.Ok
  nm : x.name.length ≤ 140737488355328
structure Field.Ok (x : Field) : Prop where
  al : x.args.length ≤ 140737488355328
  a : ∀ y, y ∈ x.args → y.Ok
  t : x.ty.Ok
  l : x.dirs.length ≤ 140737488355328
  d : ∀ y, y ∈ x.dirs → y.Ok
  nm : x.name.length ≤ 140737488355328
structure Member.Ok (x : Member) : Prop where
  l : x.dirs.length ≤ 140737488355328
  d : ∀ y, y ∈ x.dirs → y.Ok
  nm : x.name.length ≤ 140737488355328
structure Def.Ok (x : Def) : Prop where
  il : x.implements.length ≤ 140737488355328
  dl : x.dirs.length ≤ 140737488355328
  d : ∀ y, y ∈ x.dirs → y.Ok
  fl : x.fields.length ≤ 140737488355328
  f : ∀ y, y ∈ x.fields → y.Ok
  ml : x.members.length ≤ 140737488355328
  m : ∀ y, y ∈ x.members → y.Ok
  nl : x.inputs.length ≤ 140737488355328
  n : ∀ y, y ∈ x.inputs → y.Ok
  nm : x.name.length ≤ 140737488355328
  im : ∀ y, y ∈ x.implements → y.length ≤ 140737488355328
structure DocOk (ds : List Def) : Prop where
  l : ds.length ≤ 140737488355328
  d : ∀ y, y ∈ ds → y.Ok
  lb : ds.length * 144 ≤ 140737488355328
inductive Pick.Ok : Pick → Prop where
  | mk {k o n : Str} {a : List Arg} {t : Ref} {l : Str} {i : Int} {ps : List Pick} (h1 : a.length * 96 ≤ B47) (h2 : ∀ x, x ∈ a → x.Ok) (h3 : t.Ok) (h4 : ps.length * 160 ≤ B47) (h5 : ∀ x, x ∈ ps → Pick.Ok x) : Pick.Ok (.mk k o n a t l i ps)
namespace Pick.Ok
theorem al {v : Pick} (h : v.Ok) : v.args.length * 96 ≤ 140737488355328 := by cases h with | mk h1 => exact h1
theorem aa {v : Pick} (h : v.Ok) : ∀ x, x ∈ v.args → x.Ok := by cases h with | mk h1 h2 => exact h2
theorem t {v : Pick} (h : v.Ok) : v.ty.Ok := by cases h with | mk h1 h2 h3 => exact h3
theorem pl {v : Pick} (h : v.Ok) : v.picks.length * 160 ≤ 140737488355328 := by cases h with | mk h1 h2 h3 h4 => exact h4
theorem p {v : Pick} (h : v.Ok) : ∀ x, x ∈ v.picks → x.Ok := by cases h with | mk h1 h2 h3 h4 h5 => exact h5
end Pick.Ok
def Def.v (d : Def) : V := .agg [.t (.int .i64 d.kind), .t (.str d.name), .t (.lst (d.implements.map sE)), .t (.lst (d.dirs.map Dir.enc)), .t (.lst (d.fields.map Field.enc)), .t (.lst (d.members.map Member.enc)), .t (.lst (d.inputs.map Input.enc))]
def Def.zero : Def := ⟨0, [], [], [], [], [], []⟩
theorem Def.zero_ok : Def.zero.Ok := ⟨by decide, by decide, by simp [Def.zero], by decide, by simp [Def.zero], by decide, by simp [Def.zero], by decide, by simp [Def.zero], by decide, by simp [Def.zero]⟩
def Field.v (f : Field) : V := .agg [.t (.str f.name), .t (.lst (f.args.map Input.enc)), .t (.str f.ty.name), .t (.lst (f.ty.wraps.map nE)), .t (.lst (f.dirs.map Dir.enc))]
def Field.zero : Field := ⟨[], [], ⟨[], []⟩, []⟩
theorem Field.zero_ok : Field.zero.Ok := ⟨by decide, by simp [Field.zero], ⟨by decide, by decide⟩, by decide, by simp [Field.zero], by decide⟩
def Dir.v (d : Dir) : V := .agg [.t (.str d.name), .t (.lst (d.args.map Arg.enc))]
def User.v (u : User) : V := .agg [.t (.bool u.known), .t (.lst (u.scopes.map sE))]
def docV (l : List Def) : V := .agg [.t (.lst (l.map Def.enc))]
def Ref.v (r : Ref) : V := .agg [.t (.str r.name), .t (.lst (r.wraps.map nE))]
def Pick.v (v : Pick) : V := .agg [.t (.str v.key), .t (.str v.on), .t (.str v.name), .t (.lst (v.args.map Arg.enc)), .t (.str v.ty.name), .t (.lst (v.ty.wraps.map nE)), .t (.str v.label), .t (.int .i64 v.initial), .t (.lst (v.picks.map Pick.enc))]
def Arg.v (a : Arg) : V := .agg [.t (.str a.name), .t (.int .i64 a.val.kind), .t (.int .i64 a.val.int), .t (.str a.val.text), .t (.lst (a.val.items.map Val.enc)), .t (.lst (a.val.keys.map sE))]

namespace Pick
mutual
/-- how many picks -/
def cnt : Pick → Nat
  | .mk _ _ _ _ _ _ _ ps => 1 + cnts ps
def cnts : List Pick → Nat
  | [] => 0
  | p :: r => cnt p + cnts r
end
theorem cnt_eq (p : Pick) : p.cnt = 1 + cnts p.picks := by cases p; simp [cnt, picks]
theorem cnts_append : ∀ a b : List Pick, cnts (a ++ b) = cnts a + cnts b
  | [], b => by simp [cnts]
  | p :: a, b => by simp only [List.cons_append, cnts, cnts_append a b]; omega
theorem cnts_len : ∀ l : List Pick, l.length ≤ cnts l
  | [] => by simp
  | p :: r => by
    have := cnts_len r
    have := cnt_eq p
    simp only [List.length_cons, cnts]; omega
def withPicks (p : Pick) (ps : List Pick) : Pick := .mk p.key p.on p.name p.args p.ty p.label p.initial ps
mutual
/-- the permitted picks below a path, and the paths of the others -/
def filt (m : Str → Str → Bool) : Pick → List Hop → Option Pick × List (List Hop)
  | .mk k o n a t l i ps, path => if m o n = true then (some (.mk k o n a t l i (filts m ps (path ++ [⟨o, k⟩])).1), (filts m ps (path ++ [⟨o, k⟩])).2) else (none, [path ++ [⟨o, k⟩]])
def filts (m : Str → Str → Bool) : List Pick → List Hop → List Pick × List (List Hop)
  | [], _ => ([], [])
  | p :: r, path => ((filt m p path).1.toList ++ (filts m r path).1, (filt m p path).2 ++ (filts m r path).2)
end
theorem filt_eq (m : Str → Str → Bool) (p : Pick) (path : List Hop) : filt m p path = if m p.on p.name = true then (some (p.withPicks (filts m p.picks (path ++ [⟨p.on, p.key⟩])).1), (filts m p.picks (path ++ [⟨p.on, p.key⟩])).2) else (none, [path ++ [⟨p.on, p.key⟩]]) := by
  cases p; simp only [filt, on, name, picks, key, withPicks, args, ty, label, initial]; rfl
theorem filts_gone (m : Str → Str → Bool) : ∀ (k : Nat), (∀ (p : Pick) (path : List Hop), SizeOf.sizeOf p ≤ k → (filt m p path).2.length ≤ p.cnt) ∧ ∀ (l : List Pick) (path : List Hop), SizeOf.sizeOf l ≤ k → (filts m l path).2.length ≤ cnts l
  | 0 => ⟨fun p path h => by cases p; simp at h, fun l path h => by cases l <;> simp at h⟩
  | k + 1 => by
    obtain ⟨h1, h2⟩ := filts_gone m k
    refine ⟨fun p path h => ?_, fun l path h => ?_⟩
    · cases p with
      | mk kk o n a t l i ps =>
        simp only [filt, cnt]
        split
        · have := h2 ps (path ++ [⟨o, kk⟩]) (by simp at h; omega)
          simp only; omega
        · simp
    · cases l with
      | nil => simp [filts]
      | cons p r =>
        have a := h1 p path (by simp at h; omega)
        have b := h2 r path (by simp at h; omega)
        simp only [filts, cnts, List.length_append]; omega
end Pick
def pE (l : List Hop) : List T := [.lst (l.map Hop.enc)]

section
variable {P : Program} {n m : Nat} {R : St → Prop} {draw : Bool} {all : List AO} {after : List (List Nat)} {live : List Nat} {k : List It} {b b' : Nat} {fl : List (Bool × Bool)} {ops : List AO} {st st' : St} {d : Option Nat}
/-- an element of a list of things that hold things of their own kind -/
theorem Mid.elemMapC {α : Type} {f : α → List T} {l : List α} {e : α} {c : List T} {sz j : Nat} {x i : Ar} {v : V} {kd : IntKind} (hf : f e = c) (hx : rd true st x = (v, [])) (hv : v.cell1 = some (.lst (l.map f))) (hi : rd true st i = (.t (.int kd j), [])) (hc : l[j]? = some e) (hl : (Nat.beq c.length sz && !(Nat.beq sz 0)) = true)
    (hs : stepV st d (.t (.ptr c)) some = some st') (h' : Mid P n m R draw all after live k b ((false, false) :: fl) ops st') : Mid P n m R draw all after live k b fl (⟨d, none, .ia sz x i⟩ :: ops) st := by
  subst hf; exact Mid.elemMap hx hv hi hc hl hs h'
theorem Mid.elemMapCG {α : Type} {f : α → List T} {l : List α} {e : α} {c : List T} {sz j : Nat} {s : Nat} {want gc : Bool} {x i : Ar} {v : V} {kd : IntKind} {p1 p2 : List Bool} (hf : f e = c) (hg : gcondF want (look st.env s) = some gc) (hx : rd gc st x = (v, p1)) (hv : v.cell1 = some (.lst (l.map f))) (hi : rd gc st i = (.t (.int kd j), p2)) (hc : l[j]? = some e) (hl : (Nat.beq c.length sz && !(Nat.beq sz 0)) = true)
    (hp1 : pall (p1.map fun p => !gc || p)) (hp2 : pall (p2.map fun p => !gc || p)) (hs : stepV st d (.gd gc (.t (.ptr c))) some = some st') (h' : Mid P n m R draw all after live k b ((false, false) :: fl) ops st') : Mid P n m R draw all after live k b fl (⟨d, some (s, want), .ia sz x i⟩ :: ops) st := by
  subst hf; exact Mid.elemMapG hg hx hv hi hc hl hp1 hp2 hs h'
end
end Go.GB

/-
  GbRg: a loop along a map: the step.
-/
namespace Go.GB
open Go.ChangeMaps (setBlock)

section
variable {P : Program} {o : Oper} {st : St}

theorem block_wrote {w w1 : World} {b : Nat} {ob : Obj} (h : w1 = w ∨ w1 = w.drew) : Wrote w (setBlock w1 b ob) b := by
  rcases h with rfl | rfl
  · exact ⟨rfl, rfl, rfl, by simp [setBlock], fun c hc => by simp [setBlock, Ne.symm hc]⟩
  · exact ⟨rfl, rfl, rfl, by show (w.heap.setIfInBounds b ob).size = w.heap.size; simp, fun c hc => by show (w.heap.setIfInBounds b ob)[c]? = w.heap[c]?; simp [Ne.symm hc]⟩

theorem nxt_wp {x : Operand} {x' : Ar} {k q c : Nat} {seen bs : List Nat} {kag : Bool} {es : List (List T × V)} (hop : o.op = .next x false) (hx : opA x = some x') (hxv : x'.u st = .ptr k 0)
    (hit : aget st.s.sto k = some (.iter q c seen c)) (hes : aget st.s.sto q = some (.map kag es (some (c, bs)))) {C : Ctx} {Λ : L} {a : Act} {next : Act → World → Prop} {Q : Exit → Act → World → Prop} (hr : Rel C Λ st a)
    (h0 : (∀ s, s ∈ bs → s ∈ seen) → ∀ v, RelV Λ v (.tup [.t (.bool false)]) → next (a.put o.dst v) Λ.w)
    (h1 : ∀ (i : Nat) (e : List T × V) (s : Nat), es[i]? = some e → bs[i]? = some s → s ∉ seen → ∀ v (Λ' : L), Kp Λ Λ' → Λ'.nxt = Λ.nxt → RelS Λ' (st.s.app { v := .top, ob := [(k, .iter q c (seen ++ [s]) c)] }) →
      RelV Λ' v (.tup [.t (.bool true), keyV kag e.1, e.2]) → (∀ k, Free Λ k → Free Λ' k) → next (a.put o.dst v) Λ'.w) : o.wp P a Λ.w next Q := by
  have hx1 := hr.opu hx
  rw [hxv] at hx1
  generalize hex : a.eval x = u at hx1
  obtain ⟨hkn, b, bm, e1, e2, e3, e4⟩ := hr.s.sto k _ hit
  obtain ⟨ents, clock, hh, hM⟩ := hr.s.objMap hes e3
  obtain ⟨rfl, k2⟩ := hM.known c bs rfl
  have hold : ∀ y ∈ ents.toList, y.born < clock := by
    intro y hy
    obtain ⟨i, hi⟩ := List.mem_iff_getElem?.1 hy
    exact hM.born i y (by simpa using hi)
  cases hx1 with
  | @ptr b' _ _ hkl hb' =>
    obtain rfl := hr.s.inj b' b k hb' e1
    rcases run_next_at (P := P) Λ.w o.type b' bm clock clock seen.toArray ents clock e2 hh hold (Nat.le_refl _) with ⟨g0, hrun⟩ | ⟨e, he, w1, hw1, hrun⟩
    · have hrun' : (execOp a.eval o).run P Λ.w = .ok (.value (.tuple #[.bool false])) Λ.w := by
        simp only [execOp, hop, hex]
        simp only [Sem.run_bind, hrun, Result.andThen_ok, Sem.run_pure]
      unfold Oper.wp
      rw [hrun']
      refine h0 (fun s hs => ?_) _ (.tup rfl fun j u d h1 h2 => ?_)
      · rw [← k2] at hs
        obtain ⟨y, hy, rfl⟩ := List.mem_map.1 hs
        have := all_seen ents seen.toArray g0 y hy
        simpa using this
      · match j, h1, h2 with
        | 0, h1, h2 => simp at h1 h2; subst h1; subst h2; exact .t (.bool _)
    · obtain ⟨hem, hes'⟩ := mem_left he
      obtain ⟨i, hi⟩ := List.mem_iff_getElem?.1 hem
      have hi' : ents[i]? = some e := by simpa using hi
      have hil : i < es.length := by rw [← hM.size]; exact (Array.getElem?_eq_some_iff.1 hi').1
      have hee : es[i]? = some es[i] := by simp [hil]
      have hbb : bs[i]? = some e.born := by rw [← k2, List.getElem?_map, hi]; rfl
      have hns : e.born ∉ seen := by simpa using hes'
      obtain ⟨q1, q2⟩ := hM.at_ i e _ hi' hee
      have hrun' : (execOp a.eval o).run P Λ.w = .ok (.value (.tuple #[.bool true, e.key, e.val])) (setBlock w1 b' (.mapIter (some bm) clock (seen.toArray.push e.born) clock)) := by
        simp only [execOp, hop, hex]
        simp only [Sem.run_bind, hrun, Result.andThen_ok, Sem.run_pure]
      unfold Oper.wp
      rw [hrun']
      have hwr := block_wrote (w := Λ.w) (w1 := w1) (b := b') (ob := .mapIter (some bm) clock (seen.toArray.push e.born) clock) hw1
      have hkp := Kp.wrote hwr hb'
      have hat : (setBlock w1 b' (.mapIter (some bm) clock (seen.toArray.push e.born) clock)).heap[b']? = some (.mapIter (some bm) clock (seen ++ [e.born]).toArray clock) := by
        have hlt : b' < Λ.w.heap.size := heap_lt e2
        rw [show (seen ++ [e.born]).toArray = seen.toArray.push e.born from by simp]
        rcases hw1 with rfl | rfl
        · show (Λ.w.heap.setIfInBounds b' _)[b']? = _; simp [hlt]
        · show (Λ.w.heap.setIfInBounds b' _)[b']? = _; simp [hlt]
      refine h1 i _ _ hee hbb hns _ _ hkp rfl ?_ (.tup rfl fun j u d h1 h2 => ?_) (fun k h => ⟨h.obj, h.arr, h.fro⟩)
      · refine hr.s.step hkp rfl (fun j ob hj => ?_) hr.s.inj (fun c hc => hr.s.new c (by rw [hwr.size] at hc; exact hc)) hr.s.bnd hr.s.frz
        simp only [S.app, asets] at hj
        rw [aget_aset] at hj
        split at hj
        · rename_i e; subst e
          simp at hj; subst hj
          exact .inr ⟨hkn, b', bm, hb', hat, e3, e4⟩
        · rename_i hne
          refine .inl ⟨hj, fun c hc => ?_, rfl⟩
          have : c ≠ b' := by rintro rfl; rw [hb'] at hc; simp at hc; exact hne hc
          exact hwr.old c this
      · match j, h1, h2 with
        | 0, h1, h2 => simp at h1 h2; subst h1; subst h2; exact .t (.bool _)
        | 1, h1, h2 => simp at h1 h2; subst h1; subst h2; exact q1.keyV.mono hkp
        | 2, h1, h2 => simp at h1 h2; subst h1; subst h2; exact q2.mono hkp

theorem res_nxt {ops : Array Oper} {d : Nat} {x : Ar} (h : resO P ops o = some ⟨some d, none, .nw (.nxt x)⟩) : o.guard = none ∧ o.dst = some d ∧ ∃ y, o.op = .next y false ∧ opA y = some x := by
  unfold resO at h
  split at h
  · cases h
  · rename_i op hop
    split at h
    · rename_i hg
      simp only [Option.some.injEq, AO.mk.injEq, true_and] at h
      obtain ⟨h1, rfl⟩ := h
      refine ⟨hg, h1, ?_⟩
      rcases all_cases hop with h2 | ⟨nop, h2, h3⟩
      · exfalso
        unfold resOp at h2
        (repeat' split at h2) <;> simp [Option.bind_eq_some_iff] at h2
        all_goals try (obtain ⟨_, _, _, _, h2⟩ := h2; split at h2 <;> simp [Option.bind_eq_some_iff] at h2; done)
      · simp only [AOp.nw.injEq] at h2
        subst h2
        unfold resN at h3
        (repeat' split at h3) <;> simp [Option.bind_eq_some_iff] at h3
        exact ⟨_, by assumption, h3⟩
    · split at h <;> simp at h

theorem Sat.nxt {n m : Nat} {Q : AExit → St → Prop} {d : Nat} {x : Ar} {rest : List AO} {after : List (List Nat)} {live : List Nat} {k q c : Nat} {seen bs : List Nat} {kag : Bool} {es : List (List T × V)} (hxv : x.u st = .ptr k 0)
    (hit : aget st.s.sto k = some (.iter q c seen c)) (hes : aget st.s.sto q = some (.map kag es (some (c, bs))))
    (h0 : (∀ s, s ∈ bs → s ∈ seen) → evR P st.s.nxt (st.app (some d) { v := .tup [.t (.bool false)] }) rest [(true, true)] (fun b st' fl => regOk false [] [] fl st'.env ∧ Q .normal (regSt live b st')))
    (h1 : ∀ (i : Nat) (e : List T × V) (s : Nat), es[i]? = some e → bs[i]? = some s → s ∉ seen →
      evR P st.s.nxt (st.app (some d) { v := .tup [.t (.bool true), keyV kag e.1, e.2], ob := [(k, .iter q c (seen ++ [s]) c)] }) rest [(true, true)] (fun b st' fl => regOk false [] [] fl st'.env ∧ Q .normal (regSt live b st'))) :
    Sat P n m (.region false (⟨some d, none, .nw (.nxt x)⟩ :: rest) after live) st Q := by
  intro code g1 g2 g3 C Λ a g4 g5 g6 g7 g8
  have := resC_cases g1
  simp only [ACode.bare] at this
  obtain ⟨id, os, rfl, hres, haft, _⟩ := this
  have hd : DstOk C os := by
    intro j p d hp hpd
    simp only [codeOk, Array.all_eq_true'] at g2
    have := g2 p (Array.mem_of_getElem? hp)
    rw [hpd] at this
    rw [g5]; simpa using this
  obtain ⟨hlen, hat⟩ := resOs_at hres
  have h0lt : 0 < os.size := by rw [← Array.length_toList, hlen]; simp
  have ho : os[0]? = some os[0] := by simp [h0lt]
  obtain ⟨q1, q2, y, q3, q4⟩ := res_nxt (hat 0 os[0] _ (by simp) rfl)
  have hdn : d < C.n := hd 0 _ d ho q2
  have hfree : ∀ k, st.s.nxt ≤ k → Free Λ k ∧ aget st.s.sto k = none := by
    intro k hk
    refine ⟨g7.s.free (by omega), ?_⟩
    cases ha : aget st.s.sto k with
    | none => rfl
    | some o => have := (g7.s.sto k o ha).1; omega
  refine wp_region ?_
  rw [List.range_eq_range', ← Array.length_toList, hlen, List.length_cons, List.range'_succ, wpOps_cons]
  have hw : Region.wanted os[0] (yielded os a.tmps) = true := by simp [Region.wanted, q1]
  simp only [wpOp, ho, hw, if_true]
  refine .inl ?_
  have fin : ∀ (st1 : St) (Λ1 : L) (a1 : Act), Rel C Λ1 st1 a1 → Λ1.nxt = Λ.nxt → (∀ k, st.s.nxt ≤ k → Free Λ1 k ∧ aget st1.s.sto k = none) →
      evR P st.s.nxt st1 rest [(true, true)] (fun b st' fl => regOk false [] [] fl st'.env ∧ Q .normal (regSt live b st')) → wpOps P os (Post C Q) (List.range' (0 + 1) rest.length) a1 Λ1.w := by
    intro st1 Λ1 a1 hr1 hn1 hf1 h
    obtain ⟨outs, b', st', hch, hq⟩ := evR_chain h
    have hle := Ch.le hch
    have hr' := hr1.up (m := b') (by omega)
    exact seq_ops (Q := Post C Q) g4 hd hres b' rest 1 st.s.nxt st1 outs (Λ1.up b') a1 rfl hch hr' rfl (Nat.le_refl _) (fun k k1 k2 => ⟨⟨(hf1 k k1).1.obj, (hf1 k k1).1.arr, (hf1 k k1).1.fro⟩, (hf1 k k1).2⟩)
      fun a' Λ' k1 k2 => ⟨.normal, _, Λ', rfl, hq.2, k1.keep live b', k2, rfl⟩
  refine nxt_wp q3 q4 hxv hit hes g7 (fun hs v hv => ?_) (fun i e s he hb hn v Λ' k1 k2 k3 k4 k5 => ?_)
  · have := g7.step (Λ' := Λ) (Kp.refl _) (d := some d) (fun z hz => by simp at hz; subst hz; exact hdn) (v := v) (o := { v := .tup [.t (.bool false)] }) hv g7.s
    rw [q2]
    exact fin _ Λ _ this rfl hfree (h0 hs)
  · have := g7.step k1 (d := some d) (fun z hz => by simp at hz; subst hz; exact hdn) (v := v) (o := { v := .tup [.t (.bool true), keyV kag e.1, e.2], ob := [(k, .iter q c (seen ++ [s]) c)] }) k4 k3
    rw [q2]
    refine fin _ Λ' _ this k2 (fun j hj => ?_) (h1 i e s he hb hn)
    obtain ⟨f1, f2⟩ := hfree j hj
    refine ⟨k5 j f1, ?_⟩
    show aget (aset st.s.sto k _) j = none
    rw [aget_aset]
    split
    · rename_i e; subst e; rw [hit] at f2; cases f2
    · exact f2

theorem Run.nxt {n m : Nat} {R : St → Prop} {κ ν : Type} {ek : κ → List T} {ev : ν → T} {b d : Nat} {x : Ar} {rest : List AO} {after : List (List Nat)} {live : List Nat} {K K' : List It} {k q c : Nat} {seen bs : List Nat} {kag : Bool} {l : List (κ × ν)}
    (hk : advK 200 K = .c (.region false (⟨some d, none, .nw (.nxt x)⟩ :: rest) after live) :: K') (hb : forceN st.s.nxt some = some b) (hxv : x.u st = .ptr k 0)
    (hit : aget st.s.sto k = some (.iter q c seen c)) (hes : aget st.s.sto q = some (.map kag (mE ek ev l) (some (c, bs))))
    (h0 : (∀ s, s ∈ bs → s ∈ seen) → Mid P n m R false [] [] live K' b [(true, true)] rest (st.app (some d) { v := .tup [.t (.bool false)] }))
    (h1 : ∀ (i : Nat) (e : κ × ν) (s : Nat), l[i]? = some e → bs[i]? = some s → s ∉ seen →
      Mid P n m R false [] [] live K' b [(true, true)] rest (st.app (some d) { v := .tup [.t (.bool true), keyV kag (ek e.1), .t (ev e.2)], ob := [(k, .iter q c (seen ++ [s]) c)] })) : Run P n m R K st := by
  rw [forceN_eq] at hb
  simp at hb
  subst hb
  refine Run.adv 200 hk ?_
  unfold Run
  simp only [contQ]
  unfold Mid at h0 h1
  unfold Run at h0 h1
  refine Sat.nxt hxv hit hes h0 (fun i e s he hbs hn => ?_)
  simp only [mE, List.getElem?_map, Option.map_eq_some_iff] at he
  obtain ⟨z, hz, rfl⟩ := he
  exact h1 i z s hz hbs hn
end
end Go.GB

/-
  GbRh: a loop along a map: rules of the driver.
-/
namespace Go.GB

section
variable {P : Program} {n m : Nat} {R : St → Prop} {draw : Bool} {all : List AO} {after : List (List Nat)} {live : List Nat} {k : List It} {b b' : Nat} {fl : List (Bool × Bool)} {ops : List AO} {st st' : St} {d : Option Nat}
variable {κ ν : Type} {ks : List KSh} {kag : Bool} {ek : κ → List T} {ev : ν → T} {l : List (κ × ν)} {sx : Option (Nat × List Nat)} {q : Nat} {x y : Ar}

/-- a loop along a map begins -/
theorem Mid.mrangeT {c : Nat} {bs : List Nat} {es : List (List T × V)} (hx : x.u st = .mp q) (hq : aget st.s.sto q = some (.map kag es (some (c, bs))))
    (hst : stepS0 b st d { v := .ptr b 0, ob := [(b, .iter q c [] c)], n := 1, rd := true } (fun b' st' => some (b', st')) = some (b', st'))
    (h' : Mid P n m R draw all after live k b' ((true, true) :: fl) ops st') : Mid P n m R draw all after live k b fl (⟨d, none, .mrange x⟩ :: ops) st := by
  refine Mid.opX rfl ?_
  simp only [stepS0_eq, Option.some.injEq, Prod.mk.injEq] at hst
  obtain ⟨rfl, rfl⟩ := hst
  simp only [evX, hx, hq]
  exact h'

theorem entAt_mE {z : Nat} {e : κ × ν} : ∀ {l : List (κ × ν)} {bs : List Nat} {i : Nat}, l[i]? = some e → bs[i]? = some z → bs.Nodup → entAt z (mE ek ev l) bs = some (ek e.1, .t (ev e.2))
  | [], _, i, h, _, _ => by simp at h
  | _ :: _, [], i, _, h, _ => by simp at h
  | w :: r, s :: bs, 0, h1, h2, _ => by
    simp at h1 h2; subst h1; subst h2
    simp [mE, entAt]
  | w :: r, s :: bs, i + 1, h1, h2, hn => by
    have hm : z ∈ bs := List.mem_of_getElem? (by simpa using h2)
    have hne : ¬ s = z := by rintro rfl; exact (List.nodup_cons.1 hn).1 hm
    have := entAt_mE (l := r) (bs := bs) (i := i) (by simpa using h1) (by simpa using h2) (List.nodup_cons.1 hn).2
    simp only [mE, List.map_cons, entAt, hne, if_false]
    exact this

/-- the entry at hand -/
theorem Mid.ientT {kk s c i z : Nat} {seen bs : List Nat} {e : κ × ν} (hx : rd true st x = (.ptr kk 0, [])) (hit : aget st.s.sto kk = some (.iter q s seen c)) (hq : aget st.s.sto q = some (.map kag (mE ek ev l) (some (c, bs))))
    (hz : seen.getLast? = some z) (hl : l[i]? = some e) (hb : bs[i]? = some z) (hn : bs.Nodup) (hs : stepV st d (.tup [keyV kag (ek e.1), .t (ev e.2)]) some = some st')
    (h' : Mid P n m R draw all after live k b ((true, false) :: fl) ops st') : Mid P n m R draw all after live k b fl (⟨d, none, .nw (.ient x)⟩ :: ops) st := by
  refine Mid.valL (v := .tup [keyV kag (ek e.1), .t (ev e.2)]) (ps := [true, true]) ?_ (looksV_ptr hx) ⟨rfl, rfl, trivial⟩ hs h'
  simp only [evalE, evalN, hx, hit, hq, hz, entAt_mE (i := i) (z := z) hl hb hn]
  simp [hn]

/-- the front of a list, under a guard -/
theorem lToG {α : Type} {f : α → List T} {l : List α} {sz s : Nat} {want gc : Bool} {x hi : Ar} {v : V} {kd : IntKind} {j : Nat} {p1 p2 : List Bool} (hg : gcondF want (look st.env s) = some gc) (hx : rd gc st x = (v, p1)) (hv : v.cell1 = some (.lst (l.map f))) (hh : rd gc st hi = (.t (.int kd j), p2)) (hs : stepV st d (.gd gc (.t (.lst ((l.take j).map f)))) some = some st')
    (h' : Mid P n m R draw all after live k b ((false, false) :: fl) ops st') (hj : j ≤ l.length := by omega) (hsz : ∀ x, (f x).length = sz := by intros; rfl) (hp1 : pall (p1.map fun p => !gc || p) := by (repeat' (first | exact trivial | exact Bool.not_or_self _ | exact grd1 _ | exact grd2 _ | exact grd3 _ _ | exact grd4 _ _ | refine And.intro ?_ ?_ | exact rfl | (simp; done) | (simp <;> omega))); done) (hp2 : pall (p2.map fun p => !gc || p) := by (repeat' (first | exact trivial | exact Bool.not_or_self _ | exact grd1 _ | exact grd2 _ | exact grd3 _ _ | exact grd4 _ _ | refine And.intro ?_ ?_ | exact rfl | (simp; done) | (simp <;> omega))); done) : Mid P n m R draw all after live k b fl (⟨d, some (s, want), .sll sz x none (some hi)⟩ :: ops) st :=
  Mid.valG (v := .t (.lst ((l.take j).map f))) (ps := p1 ++ ([] ++ (p2 ++ [true, true, true, true]))) hg (by simp only [evalE, hx, hv, bnd, hh]; simp [hj, allLen, hsz]) rfl (by simp only [List.map_append, pall_app]; exact ⟨hp1, trivial, hp2, by simp [pall]⟩) hs h'
/-- a list without its first element -/
theorem lF1 {α : Type} {f : α → List T} {l : List α} {sz : Nat} {x lo : Ar} {v : V} {kd : IntKind} (hx : rd true st x = (v, [])) (hv : v.cell1 = some (.lst (l.map f))) (hh : rd true st lo = (.t (.int kd 1), [])) (hs : stepV st d (.t (.lst ((l.drop 1).map f))) some = some st')
    (h' : Mid P n m R draw all after live k b ((false, false) :: fl) ops st') (hj : 1 ≤ l.length := by first | omega | (simp; done) | (simp <;> omega)) (hsz : ∀ x, (f x).length = sz := by intros; rfl) : Mid P n m R draw all after live k b fl (⟨d, none, .sll sz x (some lo) none⟩ :: ops) st :=
  Mid.lstFrom (j := 1) hx hv hh hj hsz hs h'
section
variable [DecidableEq κ]
def kdrop (k : κ) : List (κ × ν) → List (κ × ν)
  | [] => []
  | e :: r => if k = e.1 then r else e :: kdrop k r
theorem mdrop_mE (he : KeyEnc ks ek) (k : κ) : ∀ (l : List (κ × ν)), mdrop (ek k) (mE ek ev l) = mE ek ev (kdrop k l)
  | [] => rfl
  | e :: r => by
    have := mdrop_mE he k r
    simp only [mE] at this
    simp only [mE, List.map_cons, mdrop, he.iff, kdrop, decide_eq_true_eq, this]
    split <;> rfl
/-- an entry is deleted -/
theorem Mid.delT (k' : κ) (hx : x.u st = .mp q) (hq : aget st.s.sto q = some (.map kag (mE ek ev l) sx)) (hc : keyC ks kag (y.u st) = some (ek k')) (he : KeyEnc ks ek)
    (hst : stepS0 b st d { v := .top, ob := [(q, .map kag (mE ek ev (kdrop k' l)) (sdrop (l.findIdx? (fun e => decide (k' = e.1))) sx))], rd := true } (fun b' st' => some (b', st')) = some (b', st'))
    (h' : Mid P n m R draw all after live k b' ((true, true) :: fl) ops st') : Mid P n m R draw all after live k b fl (⟨d, none, .nw (.mdel ks kag x y)⟩ :: ops) st := by
  refine Mid.opX rfl ?_
  simp only [stepS0_eq, Option.some.injEq, Prod.mk.injEq] at hst
  obtain ⟨rfl, rfl⟩ := hst
  simp only [evX, evXN, hx, hc, hq, mdrop_mE he, mfind_mE he]
  exact ⟨⟨trivial, keysOk_mE he l⟩, h'⟩
/-- the entry at a place is deleted -/
theorem Mid.delI {i c : Nat} {bs : List Nat} {e : κ × ν} (hx : x.u st = .mp q) (hq : aget st.s.sto q = some (.map kag (mE ek ev l) (some (c, bs)))) (hl : l[i]? = some e) (hn : (l.map (·.1)).Nodup) (hc : keyC ks kag (y.u st) = some (ek e.1)) (he : KeyEnc ks ek)
    (hst : stepS0 b st d { v := .top, ob := [(q, .map kag (mE ek ev (l.eraseIdx i)) (some (c, bs.eraseIdx i)))], rd := true } (fun b' st' => some (b', st')) = some (b', st'))
    (h' : Mid P n m R draw all after live k b' ((true, true) :: fl) ops st') : Mid P n m R draw all after live k b fl (⟨d, none, .nw (.mdel ks kag x y)⟩ :: ops) st := by
  have key : ∀ (l : List (κ × ν)) (i : Nat), l[i]? = some e → (l.map (·.1)).Nodup → kdrop e.1 l = l.eraseIdx i ∧ l.findIdx? (fun w => decide (e.1 = w.1)) = some i := by
    intro l
    induction l with
    | nil => intro i h _; simp at h
    | cons w r ih =>
      intro i h hn
      simp only [List.map_cons, List.nodup_cons] at hn
      cases i with
      | zero => simp at h; subst h; simp [kdrop, List.findIdx?_cons]
      | succ i =>
        have h' : r[i]? = some e := by simpa using h
        have hne : ¬ e.1 = w.1 := by
          intro heq
          exact hn.1 (List.mem_map.2 ⟨e, List.mem_of_getElem? h', heq⟩)
        obtain ⟨h1, h2⟩ := ih i h' hn.2
        simp [kdrop, hne, h1, List.findIdx?_cons, h2]
  obtain ⟨h1, h2⟩ := key l i hl hn
  refine Mid.delT e.1 hx hq hc he ?_ h'
  rw [h1, h2]; exact hst
theorem kget_kdrop {k k' : κ} : ∀ {l : List (κ × ν)}, (l.map (·.1)).Nodup → kget k' (kdrop k l) = if k' = k then none else kget k' l
  | [], _ => by simp [kdrop, kget]
  | e :: r, hn => by
    simp only [List.map_cons, List.nodup_cons] at hn
    have ih := kget_kdrop (k := k) (k' := k') hn.2
    have hnone : kget e.1 r = none := by
      have : ∀ (r : List (κ × ν)), e.1 ∉ r.map (·.1) → kget e.1 r = none := by
        intro r
        induction r with
        | nil => intro _; rfl
        | cons w r ih2 =>
          intro h
          simp only [List.map_cons, List.mem_cons, not_or] at h
          simp only [kget]; rw [if_neg h.1]; exact ih2 h.2
      exact this r hn.1
    simp only [kdrop]
    by_cases h : k = e.1
    · subst h
      simp only [if_true, kget]
      by_cases h2 : k' = e.1
      · subst h2; simp [hnone]
      · simp [h2]
    · simp only [h, if_false, kget, ih]
      by_cases h2 : k' = e.1
      · subst h2
        have : ¬ e.1 = k := fun h' => h h'.symm
        simp [this]
      · simp [h2]
theorem kset_keys {k : κ} {v : ν} : ∀ {l : List (κ × ν)}, (l.map (·.1)).Nodup → ((kset k v l).map (·.1)).Nodup ∧ ∀ y, y ∈ (kset k v l).map (·.1) ↔ y = k ∨ y ∈ l.map (·.1)
  | [], _ => by simp [kset]
  | e :: r, hn => by
    simp only [List.map_cons, List.nodup_cons] at hn
    obtain ⟨h1, h2⟩ := kset_keys (k := k) (v := v) hn.2
    simp only [kset]
    split
    · rename_i h
      subst h
      simp only [List.map_cons, List.nodup_cons]
      exact ⟨hn, fun y => by simp⟩
    · rename_i h
      simp only [List.map_cons, List.nodup_cons]
      refine ⟨⟨fun hm => ?_, h1⟩, fun y => ?_⟩
      · rcases (h2 _).1 hm with h' | h'
        · exact h h'.symm
        · exact hn.1 h'
      · simp only [List.mem_cons, h2]
        constructor
        · rintro (h | h | h)
          · exact .inr (.inl h)
          · exact .inl h
          · exact .inr (.inr h)
        · rintro (h | h | h)
          · exact .inr (.inl h)
          · exact .inl h
          · exact .inr (.inr h)
end
end
end Go.GB

/-
  D11A: contracts of chapter 11's functions: finding definitions and fields, lists of names.
-/
namespace Go.GB.C11
open Go.GB
set_option linter.unusedSimpArgs false
set_option linter.unusedVariables false
set_option maxRecDepth 100000
set_option maxHeartbeats 2000000
structure Pr (P : Program) : Prop where
  mixed : P.follows .mixedOrders = true
  i12 : fnInfo P 12 = some (n12, c12.bare, r12)
  i13 : fnInfo P 13 = some (n13, c13.bare, r13)
  i14 : fnInfo P 14 = some (n14, c14.bare, r14)
  i15 : fnInfo P 15 = some (n15, c15.bare, r15)
  i29 : fnInfo P 29 = some (n29, c29.bare, r29)
  i31 : fnInfo P 31 = some (n31, c31.bare, r31)
  i40 : fnInfo P 40 = some (n40, c40.bare, r40)
  i44 : fnInfo P 44 = some (n44, c44.bare, r44)
  i45 : fnInfo P 45 = some (n45, c45.bare, r45)
  i46 : fnInfo P 46 = some (n46, c46.bare, r46)
  i47 : fnInfo P 47 = some (n47, c47.bare, r47)
  i48 : fnInfo P 48 = some (n48, c48.bare, r48)
  i49 : fnInfo P 49 = some (n49, c49.bare, r49)
  i50 : fnInfo P 50 = some (n50, c50.bare, r50)
  i51 : fnInfo P 51 = some (n51, c51.bare, r51)
  i52 : fnInfo P 52 = some (n52, c52.bare, r52)
  i53 : fnInfo P 53 = some (n53, c53.bare, r53)
  i54 : fnInfo P 54 = some (n54, c54.bare, r54)
  i55 : fnInfo P 55 = some (n55, c55.bare, r55)
  i56 : fnInfo P 56 = some (n56, c56.bare, r56)
  i57 : fnInfo P 57 = some (n57, c57.bare, r57)
  i58 : fnInfo P 58 = some (n58, c58.bare, r58)
  i68 : fnInfo P 68 = some (n68, c68.bare, r68)
  i85 : fnInfo P 85 = some (n85, c85.bare, r85)
  i86 : fnInfo P 86 = some (n86, c86.bare, r86)
  i87 : fnInfo P 87 = some (n87, c87.bare, r87)
  i88 : fnInfo P 88 = some (n88, c88.bare, r88)
  i89 : fnInfo P 89 = some (n89, c89.bare, r89)
  i90 : fnInfo P 90 = some (n90, c90.bare, r90)
  i91 : fnInfo P 91 = some (n91, c91.bare, r91)
  i92 : fnInfo P 92 = some (n92, c92.bare, r92)
  i93 : fnInfo P 93 = some (n93, c93.bare, r93)
  i94 : fnInfo P 94 = some (n94, c94.bare, r94)
  i95 : fnInfo P 95 = some (n95, c95.bare, r95)
  i96 : fnInfo P 96 = some (n96, c96.bare, r96)
  i97 : fnInfo P 97 = some (n97, c97.bare, r97)
  i98 : fnInfo P 98 = some (n98, c98.bare, r98)
  i99 : fnInfo P 99 = some (n99, c99.bare, r99)
  i100 : fnInfo P 100 = some (n100, c100.bare, r100)
  i101 : fnInfo P 101 = some (n101, c101.bare, r101)
  i102 : fnInfo P 102 = some (n102, c102.bare, r102)
  i103 : fnInfo P 103 = some (n103, c103.bare, r103)
  i104 : fnInfo P 104 = some (n104, c104.bare, r104)
  i105 : fnInfo P 105 = some (n105, c105.bare, r105)
  i106 : fnInfo P 106 = some (n106, c106.bare, r106)
  i107 : fnInfo P 107 = some (n107, c107.bare, r107)
  i108 : fnInfo P 108 = some (n108, c108.bare, r108)
  i109 : fnInfo P 109 = some (n109, c109.bare, r109)
  i110 : fnInfo P 110 = some (n110, c110.bare, r110)
  i126 : fnInfo P 126 = some (n126, c126.bare, r126)
  i134 : fnInfo P 134 = some (n134, c134.bare, r134)
  i136 : fnInfo P 136 = some (n136, c136.bare, r136)
  i140 : fnInfo P 140 = some (n140, c140.bare, r140)
  i141 : fnInfo P 141 = some (n141, c141.bare, r141)
  i142 : fnInfo P 142 = some (n142, c142.bare, r142)
  i143 : fnInfo P 143 = some (n143, c143.bare, r143)
  i144 : fnInfo P 144 = some (n144, c144.bare, r144)
  i145 : fnInfo P 145 = some (n145, c145.bare, r145)
  i146 : fnInfo P 146 = some (n146, c146.bare, r146)
  i147 : fnInfo P 147 = some (n147, c147.bare, r147)
  i148 : fnInfo P 148 = some (n148, c148.bare, r148)
  i149 : fnInfo P 149 = some (n149, c149.bare, r149)
  i150 : fnInfo P 150 = some (n150, c150.bare, r150)
  i151 : fnInfo P 151 = some (n151, c151.bare, r151)
  i152 : fnInfo P 152 = some (n152, c152.bare, r152)
  i153 : fnInfo P 153 = some (n153, c153.bare, r153)
  i154 : fnInfo P 154 = some (n154, c154.bare, r154)
  i155 : fnInfo P 155 = some (n155, c155.bare, r155)
  i156 : fnInfo P 156 = some (n156, c156.bare, r156)
  i169 : fnInfo P 169 = some (n169, c169.bare, r169)
  i170 : fnInfo P 170 = some (n170, c170.bare, r170)
  i171 : fnInfo P 171 = some (n171, c171.bare, r171)
  i172 : fnInfo P 172 = some (n172, c172.bare, r172)
  i173 : fnInfo P 173 = some (n173, c173.bare, r173)
  i174 : fnInfo P 174 = some (n174, c174.bare, r174)
  i184 : fnInfo P 184 = some (n184, c184.bare, r184)
  i185 : fnInfo P 185 = some (n185, c185.bare, r185)
  i186 : fnInfo P 186 = some (n186, c186.bare, r186)
variable {P : Program}

def findDef (n : Str) : List Def → Option Def
  | [] => none
  | d :: r => if (d.name == n) = true then some d else findDef n r
theorem findDef_mem {n : Str} : ∀ {l : List Def} {d : Def}, findDef n l = some d → d ∈ l
  | [], d, h => by simp [findDef] at h
  | x :: r, d, h => by
    simp only [findDef] at h
    split at h
    · cases h; exact List.mem_cons_self ..
    · exact List.mem_cons_of_mem _ (findDef_mem h)
def findField (n : Str) : List Field → Option Field
  | [] => none
  | d :: r => if (d.name == n) = true then some d else findField n r
theorem findField_mem {n : Str} : ∀ {l : List Field} {d : Field}, findField n l = some d → d ∈ l
  | [], d, h => by simp [findField] at h
  | x :: r, d, h => by
    simp only [findField] at h
    split at h
    · cases h; exact List.mem_cons_self ..
    · exact List.mem_cons_of_mem _ (findField_mem h)
theorem find_ok (H : Pr P) (ds : List Def) (hl : ds.length ≤ 140737488355328) (n : Str) : FnOk P 87 [docV ds, .t (.str n)] ⟨[], 0⟩ { v := .tup [((findDef n ds).getD Def.zero).v, .t (.bool (findDef n ds).isSome)] } := by
  refine FnOk.run H.i87 H.mixed rfl rfl ?_
  refine fR rfl ?_
  refine lM rfl rfl rfl ?_
  refine fM rfl ?_
  refine rList ds (fun i (_ : Unit) => { env := [(1, .t (.str n)), (4, .ptr 1 0), (9, .t (.lst (ds.map Def.enc))), (10, .t (.int .i64 ds.length)), (11, .t (.int .i64 i))], s := ⟨[(1, .cells [.t (.int .i64 0), .t (.str []), .nils, .nils, .nils, .nils, .nils])], 2⟩ }) (fun r i _ => findDef n ds = findDef n r) 2 () rfl rfl rfl rfl rfl ?_ ?_
  · intro _ hinv
    refine fR rfl ?_
    refine Run.condF rfl rfl (by simp) ?_
    refine fR rfl ?_
    have e : findDef n ds = none := by rw [hinv]; rfl
    rw [e]
    refine Run.fin rfl (EndOk.go ?_); exact .tup2 (.agg (.cons (.t rfl) (.cons (.t rfl) (.cons (.nil rfl) (.cons (.nil rfl) (.cons (.nil rfl) (.cons (.nil rfl) (.cons (.nil rfl) .nil)))))))) (.t rfl)
  · intro i x r _ h1 hi hd hinv ih
    refine fR rfl ?_
    refine Run.condT rfl rfl (by simp; omega) ?_
    refine fR rfl ?_
    refine Mid.elemMap rfl rfl rfl h1 rfl rfl ?_
    refine fM rfl ?_
    refine Run.cond rfl rfl (fun h => ?_) (fun h => ?_)
    · refine fR rfl ?_
      have e : findDef n ds = some x := by rw [hinv]; simp only [findDef]; rw [if_pos h]
      rw [e]
      refine Run.fin rfl (EndOk.go ?_); exact .tup2 (.le (.same rfl)) (.t rfl)
    · refine fR rfl ?_
      refine aL rfl rfl rfl rfl rfl ?_
      refine fM rfl ?_
      have h' : ¬ (x.name == n) = true := by rw [h]; simp
      exact rWeak 2 rfl (ih () (by rw [hinv]; simp only [findDef]; rw [if_neg h'])) rfl rfl rfl


theorem fieldOf_ok (H : Pr P) (d : Def) (hl : d.fields.length ≤ 140737488355328) (n : Str) : FnOk P 134 [d.v, .t (.str n)] ⟨[], 0⟩ { v := .tup [((findField n d.fields).getD Field.zero).v, .t (.bool (findField n d.fields).isSome)] } := by
  refine FnOk.run H.i134 H.mixed rfl rfl ?_
  refine fR rfl ?_
  refine lM rfl rfl rfl ?_
  refine fM rfl ?_
  refine rList d.fields (fun i (_ : Unit) => { env := [(1, .t (.str n)), (4, .ptr 1 0), (9, .t (.lst ((d.fields).map Field.enc))), (10, .t (.int .i64 (d.fields).length)), (11, .t (.int .i64 i))], s := ⟨[(1, .cells [.t (.str []), .nils, .t (.str []), .nils, .nils])], 2⟩ }) (fun r i _ => findField n (d.fields) = findField n r) 2 () rfl rfl rfl rfl rfl ?_ ?_
  · intro _ hinv
    refine fR rfl ?_
    refine Run.condF rfl rfl (by simp) ?_
    refine fR rfl ?_
    have e : findField n (d.fields) = none := by rw [hinv]; rfl
    rw [e]
    refine Run.fin rfl (EndOk.go ?_); exact .tup2 (.agg (.cons (.t rfl) (.cons (.nil rfl) (.cons (.t rfl) (.cons (.nil rfl) (.cons (.nil rfl) .nil)))))) (.t rfl)
  · intro i x r _ h1 hi hd hinv ih
    refine fR rfl ?_
    refine Run.condT rfl rfl (by simp; omega) ?_
    refine fR rfl ?_
    refine Mid.elemMap rfl rfl rfl h1 rfl rfl ?_
    refine fM rfl ?_
    refine Run.cond rfl rfl (fun h => ?_) (fun h => ?_)
    · refine fR rfl ?_
      have e : findField n (d.fields) = some x := by rw [hinv]; simp only [findField]; rw [if_pos h]
      rw [e]
      refine Run.fin rfl (EndOk.go ?_); exact .tup2 (.le (.same rfl)) (.t rfl)
    · refine fR rfl ?_
      refine aL rfl rfl rfl rfl rfl ?_
      refine fM rfl ?_
      have h' : ¬ (x.name == n) = true := by rw [h]; simp
      exact rWeak 2 rfl (ih () (by rw [hinv]; simp only [findField]; rw [if_neg h'])) rfl rfl rfl


theorem rFind_ok (H : Pr P) (ds : List Def) (hl : ds.length ≤ 140737488355328) (n : Str) : FnOk P 57 [docV ds, .t (.str n)] ⟨[], 0⟩ { v := .tup [((findDef n ds).getD Def.zero).v, .t (.bool (findDef n ds).isSome)] } := by
  refine FnOk.run H.i57 H.mixed rfl rfl ?_
  refine fR rfl ?_
  refine rList ds (fun i (_ : Unit) => { env := [(1, .t (.str n)), (2, .ptr 0 0), (4, .ptr 1 0), (6, .t (.int .i64 i))], s := ⟨[(0, .cells [.t (.lst (ds.map Def.enc))]), (1, .cells [.t (.int .i64 0), .t (.str []), .nils, .nils, .nils, .nils, .nils])], 2⟩ }) (fun r i _ => findDef n (ds) = findDef n r) 2 () rfl rfl rfl rfl rfl ?_ ?_
  · intro _ hinv
    refine fR rfl ?_
    refine lM rfl rfl rfl ?_
    refine fM rfl ?_
    refine Run.condF rfl rfl (by simp) ?_
    refine fR rfl ?_
    have e : findDef n (ds) = none := by rw [hinv]; rfl
    rw [e]
    refine Run.fin rfl (EndOk.go ?_); exact .tup2 (.agg (.cons (.t rfl) (.cons (.t rfl) (.cons (.nil rfl) (.cons (.nil rfl) (.cons (.nil rfl) (.cons (.nil rfl) (.cons (.nil rfl) .nil)))))))) (.t rfl)
  · intro i x r _ h1 hi hd hinv ih
    refine fR rfl ?_
    refine lM rfl rfl rfl ?_
    refine fM rfl ?_
    refine Run.condT rfl rfl (by simp; omega) ?_
    refine fR rfl ?_
    refine Mid.elemMap rfl rfl rfl h1 rfl rfl ?_
    refine fM rfl ?_
    refine Run.cond rfl rfl (fun h => ?_) (fun h => ?_)
    · refine fR rfl ?_
      refine Mid.elemMap rfl rfl rfl h1 rfl rfl ?_
      refine fM rfl ?_
      have e : findDef n (ds) = some x := by rw [hinv]; simp only [findDef]; rw [if_pos h]
      rw [e]
      refine Run.fin rfl (EndOk.go ?_); exact .tup2 (.le (.same rfl)) (.t rfl)
    · refine fR rfl ?_
      refine aL rfl rfl rfl rfl rfl ?_
      refine fM rfl ?_
      have h' : ¬ (x.name == n) = true := by rw [h]; simp
      exact rWeak 2 rfl (ih () (by rw [hinv]; simp only [findDef]; rw [if_neg h'])) rfl rfl rfl


theorem rFieldOf_ok (H : Pr P) (d : Def) (hl : d.fields.length ≤ 140737488355328) (n : Str) : FnOk P 58 [d.v, .t (.str n)] ⟨[], 0⟩ { v := .tup [((findField n d.fields).getD Field.zero).v, .t (.bool (findField n d.fields).isSome)] } := by
  refine FnOk.run H.i58 H.mixed rfl rfl ?_
  refine fR rfl ?_
  refine rList d.fields (fun i (_ : Unit) => { env := [(1, .t (.str n)), (2, .ptr 0 0), (4, .ptr 1 0), (6, .t (.int .i64 i))], s := ⟨[(0, .cells [.t (.int .i64 d.kind), .t (.str d.name), .t (.lst (d.implements.map sE)), .t (.lst (d.dirs.map Dir.enc)), .t (.lst (d.fields.map Field.enc)), .t (.lst (d.members.map Member.enc)), .t (.lst (d.inputs.map Input.enc))]), (1, .cells [.t (.str []), .nils, .t (.str []), .nils, .nils])], 2⟩ }) (fun r i _ => findField n (d.fields) = findField n r) 2 () rfl rfl rfl rfl rfl ?_ ?_
  · intro _ hinv
    refine fR rfl ?_
    refine lM rfl rfl rfl ?_
    refine fM rfl ?_
    refine Run.condF rfl rfl (by simp) ?_
    refine fR rfl ?_
    have e : findField n (d.fields) = none := by rw [hinv]; rfl
    rw [e]
    refine Run.fin rfl (EndOk.go ?_); exact .tup2 (.agg (.cons (.t rfl) (.cons (.nil rfl) (.cons (.t rfl) (.cons (.nil rfl) (.cons (.nil rfl) .nil)))))) (.t rfl)
  · intro i x r _ h1 hi hd hinv ih
    refine fR rfl ?_
    refine lM rfl rfl rfl ?_
    refine fM rfl ?_
    refine Run.condT rfl rfl (by simp; omega) ?_
    refine fR rfl ?_
    refine Mid.elemMap rfl rfl rfl h1 rfl rfl ?_
    refine fM rfl ?_
    refine Run.cond rfl rfl (fun h => ?_) (fun h => ?_)
    · refine fR rfl ?_
      refine Mid.elemMap rfl rfl rfl h1 rfl rfl ?_
      refine fM rfl ?_
      have e : findField n (d.fields) = some x := by rw [hinv]; simp only [findField]; rw [if_pos h]
      rw [e]
      refine Run.fin rfl (EndOk.go ?_); exact .tup2 (.le (.same rfl)) (.t rfl)
    · refine fR rfl ?_
      refine aL rfl rfl rfl rfl rfl ?_
      refine fM rfl ?_
      have h' : ¬ (x.name == n) = true := by rw [h]; simp
      exact rWeak 2 rfl (ih () (by rw [hinv]; simp only [findField]; rw [if_neg h'])) rfl rfl rfl


def indexS (s : Str) : List Str → Int → Int
  | [], _ => -1
  | x :: r, i => if (s == x) = true then i else indexS s r (i + 1)
theorem index_ok (H : Pr P) (l : List Str) (hl : l.length ≤ 140737488355328) (s : Str) : FnOk P 126 [.t (.lst (l.map sE)), .t (.str s)] ⟨[], 0⟩ { v := .t (.int .i64 (indexS s l 0)) } := by
  refine FnOk.run H.i126 H.mixed rfl rfl ?_
  refine fR rfl ?_
  refine lM rfl rfl rfl ?_
  refine fM rfl ?_
  refine rList l (fun i (_ : Unit) => { env := [(0, .t (.lst (l.map sE))), (1, .t (.str s)), (7, .t (.int .i64 l.length)), (8, .t (.int .i64 i))], s := ⟨[], 0⟩ }) (fun r i _ => indexS s l 0 = indexS s r i) 0 () rfl rfl rfl rfl rfl ?_ ?_
  · intro _ hinv
    refine fR rfl ?_
    refine Run.condF rfl rfl (by simp) ?_
    refine fR rfl ?_
    refine Run.fin rfl (EndOk.go ?_); exact .t (by rw [hinv]; simp [indexS])
  · intro i x r _ h1 hi hd hinv ih
    refine fR rfl ?_
    refine Run.condT rfl rfl (by simp; omega) ?_
    refine fR rfl ?_
    refine Mid.elemMap rfl rfl rfl h1 rfl rfl ?_
    refine fM rfl ?_
    refine Run.cond rfl rfl (fun h => ?_) (fun h => ?_)
    · refine fR rfl ?_
      refine Run.fin rfl (EndOk.go ?_); exact .t (by rw [hinv]; simp only [indexS]; rw [if_pos h])
    · refine fR rfl ?_
      refine aL rfl rfl rfl rfl rfl ?_
      refine fM rfl ?_
      have h' : ¬ (s == x) = true := by rw [h]; simp
      exact rWeak 0 rfl (ih () (by rw [hinv]; simp only [indexS]; rw [if_neg h']; rfl)) rfl rfl rfl

theorem index_mem (s : Str) : ∀ (l : List Str) (i : Int), 0 ≤ i → (decide (indexS s l i ≥ 0)) = decide (s ∈ l)
  | [], i, _ => by simp [indexS]
  | x :: r, i, hi => by
    by_cases h : s = x
    · subst h; simp [indexS, hi]
    · have h' : ¬ (s == x) = true := by simpa using h
      have e : indexS s (x :: r) i = indexS s r (i + 1) := by simp only [indexS]; rw [if_neg h']
      rw [e, index_mem s r (i + 1) (by omega)]; simp [h]

theorem contains_ok (H : Pr P) (l : List Str) (hl : l.length ≤ 140737488355328) (s : Str) : FnOk P 68 [.t (.lst (l.map sE)), .t (.str s)] ⟨[], 0⟩ { v := .t (.bool (decide (s ∈ l))) } := by
  refine FnOk.run H.i68 H.mixed rfl rfl ?_
  refine fR rfl ?_
  refine Mid.call (index_ok H l hl s) rfl rfl rfl rfl ?_
  refine fM rfl ?_
  refine Run.fin rfl (EndOk.go ?_); exact .t (by rw [← index_mem s l 0 (by omega)])

end Go.GB.C11

/-
  D11B: contracts of chapter 11's functions: Possible.
-/
namespace Go.GB.C11
open Go.GB
set_option linter.unusedSimpArgs false
set_option linter.unusedVariables false
set_option maxRecDepth 100000
set_option maxHeartbeats 2000000
variable {P : Program}

theorem bne_b (a b : Int) : (a != b) = !(a == b) := rfl
theorem rHas_ok (H : Pr P) (l : List Str) (hl : l.length ≤ 140737488355328) (s : Str) : FnOk P 90 [.t (.lst (l.map sE)), .t (.str s)] ⟨[], 0⟩ { v := .t (.bool (decide (s ∈ l))) } := by
  refine FnOk.run H.i90 H.mixed rfl rfl ?_
  refine fR rfl ?_
  refine rList l (fun i (_ : Unit) => { env := [(0, .t (.lst (l.map sE))), (1, .t (.str s)), (5, .t (.int .i64 i))], s := ⟨[], 0⟩ }) (fun r i _ => decide (s ∈ l) = decide (s ∈ r)) 0 () rfl rfl rfl rfl rfl ?_ ?_
  · intro _ hinv
    refine fR rfl ?_
    refine lM rfl rfl rfl ?_
    refine fM rfl ?_
    refine Run.condF rfl rfl (by simp) ?_
    refine fR rfl ?_
    refine Run.fin rfl (EndOk.go ?_); exact .t (by rw [hinv]; simp)
  · intro i x r _ h1 hi hd hinv ih
    refine fR rfl ?_
    refine lM rfl rfl rfl ?_
    refine fM rfl ?_
    refine Run.condT rfl rfl (by simp; omega) ?_
    refine fR rfl ?_
    refine Mid.elemMap rfl rfl rfl h1 rfl rfl ?_
    refine fM rfl ?_
    refine Run.cond rfl rfl (fun h => ?_) (fun h => ?_)
    · have h' : x = s := by simpa using h
      refine fR rfl ?_
      refine Run.fin rfl (EndOk.go ?_); exact .t (by rw [hinv]; simp [h'])
    · have h' : ¬ x = s := by simpa using h
      have h2 : ¬ s = x := fun e => h' e.symm
      refine fR rfl ?_
      refine aL rfl rfl rfl rfl rfl ?_
      refine fM rfl ?_
      exact rWeak 0 rfl (ih () (by rw [hinv]; simp [h2])) rfl rfl rfl

def memF (l : List Member) (n : Str) : Bool := l.any fun m => m.name == n
theorem member_ok (H : Pr P) (t : Def) (hl : t.members.length ≤ 140737488355328) (n : Str) : FnOk P 91 [t.v, .t (.str n)] ⟨[], 0⟩ { v := .t (.bool (memF t.members n)) } := by
  refine FnOk.run H.i91 H.mixed rfl rfl ?_
  refine fR rfl ?_
  refine rList t.members (fun i (_ : Unit) => { env := [(1, .t (.str n)), (2, .ptr 0 0), (5, .t (.int .i64 i))], s := ⟨[(0, .cells [.t (.int .i64 t.kind), .t (.str t.name), .t (.lst (t.implements.map sE)), .t (.lst (t.dirs.map Dir.enc)), .t (.lst (t.fields.map Field.enc)), .t (.lst (t.members.map Member.enc)), .t (.lst (t.inputs.map Input.enc))])], 1⟩ }) (fun r i _ => memF t.members n = memF r n) 1 () rfl rfl rfl rfl rfl ?_ ?_
  · intro _ hinv
    refine fR rfl ?_
    refine lM rfl rfl rfl ?_
    refine fM rfl ?_
    refine Run.condF rfl rfl (by simp) ?_
    refine fR rfl ?_
    refine Run.fin rfl (EndOk.go ?_); exact .t (by rw [hinv]; rfl)
  · intro i x r _ h1 hi hd hinv ih
    refine fR rfl ?_
    refine lM rfl rfl rfl ?_
    refine fM rfl ?_
    refine Run.condT rfl rfl (by simp; omega) ?_
    refine fR rfl ?_
    refine Mid.elemMap rfl rfl rfl h1 rfl rfl ?_
    refine fM rfl ?_
    refine Run.cond rfl rfl (fun h => ?_) (fun h => ?_)
    · refine fR rfl ?_
      refine Run.fin rfl (EndOk.go ?_); exact .t (by rw [hinv]; simp only [memF, List.any_cons, h, Bool.true_or])
    · refine fR rfl ?_
      refine aL rfl rfl rfl rfl rfl ?_
      refine fM rfl ?_
      exact rWeak 1 rfl (ih () (by rw [hinv]; simp only [memF, List.any_cons, h, Bool.false_or])) rfl rfl rfl

theorem implements_ok (H : Pr P) (t : Def) (ht : t.Ok) (n : Str) : FnOk P 88 [t.v, .t (.str n)] ⟨[], 0⟩ { v := .t (.bool (decide (n ∈ t.implements))) } := by
  refine FnOk.run H.i88 H.mixed rfl rfl ?_
  refine fR rfl ?_
  refine Mid.call (contains_ok H t.implements ht.il n) rfl rfl rfl rfl ?_
  refine fM rfl ?_
  refine Run.fin rfl (EndOk.go ?_); exact .t rfl

/-- no definition ahead has that name -/
def firstF (pre : List Def) (n : Str) : Bool := !(pre.any fun x => x.name == n)
theorem first_ok (H : Pr P) (ds : List Def) (hl : ds.length ≤ 140737488355328) (i : Nat) (x : Def) (h : ds[i]? = some x) : FnOk P 89 [docV ds, .t (.int .i64 i)] ⟨[], 0⟩ { v := .t (.bool (firstF (ds.take i) x.name)) } := by
  have hi : i < ds.length := (List.getElem?_eq_some_iff.1 h).1
  have hlt : (ds.take i).length = i := by simp; omega
  refine FnOk.run H.i89 H.mixed rfl rfl ?_
  refine fR rfl ?_
  refine rList (ds.take i) (fun j (_ : Unit) => { env := [(1, .t (.int .i64 i)), (2, .ptr 0 0), (5, .t (.int .i64 j))], s := ⟨[(0, .cells [.t (.lst (ds.map Def.enc))])], 1⟩ }) (fun r j _ => firstF (ds.take i) x.name = firstF r x.name) 1 () rfl rfl rfl rfl rfl ?_ ?_
  · intro _ hinv
    refine fR rfl ?_
    refine Run.condF rfl rfl (by rw [hlt]; simp) ?_
    refine fR rfl ?_
    refine Run.fin rfl (EndOk.go ?_); exact .t (by rw [hinv]; rfl)
  · intro j y r _ h2 hj hd hinv ih
    have h2' : ds[j]? = some y := by rw [List.getElem?_take] at h2; split at h2; exact h2; cases h2
    have hj' : j < i := by omega
    refine fR rfl ?_
    refine Run.condT rfl rfl (by simp; omega) ?_
    refine fR rfl ?_
    refine Mid.elemMap rfl rfl rfl h2' rfl rfl ?_
    refine fM rfl ?_
    refine Mid.elemMap rfl rfl rfl h rfl rfl ?_
    refine fM rfl ?_
    refine Run.cond rfl rfl (fun he => ?_) (fun he => ?_)
    · refine fR rfl ?_
      refine Run.fin rfl (EndOk.go ?_); exact .t (by rw [hinv]; simp only [firstF, List.any_cons, he, Bool.true_or, Bool.not_true])
    · refine fR rfl ?_
      refine aL rfl rfl rfl rfl rfl ?_
      refine fM rfl ?_
      exact rWeak 1 rfl (ih () (by rw [hinv]; simp only [firstF, List.any_cons, he, Bool.false_or])) rfl rfl rfl

/-- a possible type of a type -/
def isP (t : Def) (nm : Str) (o : Def) : Bool := (t.kind == 1 && o.name == nm) || (t.kind == 2 && decide (nm ∈ o.implements)) || (t.kind == 3 && memF t.members o.name)
/-- the possible types, by the reference -/
def posL (t : Def) (nm : Str) : List Def → List Def → List Str
  | _, [] => []
  | pre, o :: r => if (o.kind == 1 && firstF pre o.name && isP t nm o) = true then o.name :: posL t nm (pre ++ [o]) r else posL t nm (pre ++ [o]) r
def posF (ds : List Def) (nm : Str) : List Str :=
  match findDef nm ds with
  | none => []
  | some t => posL t nm [] ds
theorem docFind {ds : List Def} (hD : DocOk ds) (n : Str) : ((findDef n ds).getD Def.zero).Ok := by
  cases h : findDef n ds with
  | none => exact Def.zero_ok
  | some t => exact hD.d t (findDef_mem h)
theorem rPossible_ok (H : Pr P) (ds : List Def) (hD : DocOk ds) (nm : Str) : FnOk P 47 [docV ds, .t (.str nm)] ⟨[], 0⟩ { v := .t (.lst ((posF ds nm).map sE)) } := by
  have hl := hD.l
  have hlb := hD.lb
  have hT := docFind hD nm
  have hpos : posF ds nm = if (findDef nm ds).isSome = true then posL ((findDef nm ds).getD Def.zero) nm [] ds else [] := by
    unfold posF; cases findDef nm ds <;> rfl
  refine FnOk.run H.i47 H.mixed rfl rfl ?_
  refine fR rfl ?_
  refine Mid.call (rFind_ok H ds hl nm) rfl rfl rfl rfl ?_
  refine fM rfl ?_
  generalize (findDef nm ds).isSome = b at hpos
  generalize (findDef nm ds).getD Def.zero = t at hpos hT
  refine rList ds (fun i (B : List Str) => { env := [(1, .t (.str nm)), (2, .ptr 0 0), (5, .own 2 1 (B.map sE)), (6, .ptr 1 0), (7, .t (.bool b)), (8, .t (.int .i64 i))], s := ⟨[(0, .cells [.t (.lst (ds.map Def.enc))]), (1, .cells [.t (.int .i64 t.kind), .t (.str t.name), .t (.lst (t.implements.map sE)), .t (.lst (t.dirs.map Dir.enc)), .t (.lst (t.fields.map Field.enc)), .t (.lst (t.members.map Member.enc)), .t (.lst (t.inputs.map Input.enc))]), (2, .arr B.length)], 3⟩ }) (fun r i B => B.length ≤ i ∧ (b = false → B = []) ∧ posF ds nm = if b = true then B ++ posL t nm (ds.take i) r else []) 2 [] rfl ⟨by simp, fun _ => rfl, by rw [hpos]; simp⟩ rfl rfl rfl ?_ ?_
  · rintro B ⟨_, hB0, hB⟩
    cases b with
    | true =>
      obtain rfl : B = posF ds nm := by rw [hB]; simp [posL]
      refine fR rfl ?_
      refine lM rfl rfl rfl ?_
      refine fM rfl ?_
      refine Run.condF rfl rfl (by simp) ?_
      refine fR rfl ?_
      refine Run.fin rfl (EndOk.go ?_); exact .own rfl
    | false =>
      obtain rfl : B = [] := hB0 rfl
      have hB' : posF ds nm = [] := by simpa using hB
      refine fR rfl ?_
      refine lM rfl rfl rfl ?_
      refine fM rfl ?_
      refine Run.condF rfl rfl (by simp) ?_
      refine fR rfl ?_
      rw [hB']
      refine Run.fin rfl (EndOk.go ?_); exact .own rfl
  · rintro i x r B h1 hi hd ⟨hBl, hB0, hB⟩ ih
    have hBl' : B.length ≤ i := hBl
    have htk : ds.take i ++ [x] = ds.take (i + 1) := by rw [List.take_add_one, h1]; rfl
    have hx := hD.d x (List.mem_of_getElem? h1)
    cases b with
    | true =>
      have hB' : posF ds nm = B ++ posL t nm (ds.take i) (x :: r) := by simpa using hB
      refine fR rfl ?_
      refine lM rfl rfl rfl ?_
      refine fM rfl ?_
      refine Run.condT rfl rfl (by simp; omega) ?_
      refine fR rfl ?_
      refine Mid.elemMap rfl rfl rfl h1 rfl rfl ?_
      refine fM rfl ?_
      refine caG rfl rfl (fun hg => ⟨_, rfl, first_ok H ds hl i x h1, rfl⟩) rfl rfl ?_
      refine fM rfl ?_
      refine Run.cond rfl rfl (fun hc => ?_) (fun hc => ?_)
      · have hn : (x.kind == 1 && firstF (ds.take i) x.name && isP t nm x) = false := by
          have : (x.kind == 1 && firstF (ds.take i) x.name) = false := by rw [bne_b] at hc; revert hc; cases (x.kind == 1) <;> cases (firstF (ds.take i) x.name) <;> simp
          rw [this]; rfl
        refine fR rfl ?_
        refine aL rfl rfl rfl rfl rfl ?_
        refine fM rfl ?_
        exact rWeak 3 rfl (ih B ⟨by omega, by simp, by rw [hB']; simp only [posL, hn]; rw [htk]; rfl⟩) rfl rfl rfl
      · have hn : (x.kind == 1 && firstF (ds.take i) x.name) = true := by rw [bne_b] at hc; revert hc; cases (x.kind == 1) <;> cases (firstF (ds.take i) x.name) <;> simp
        refine fR rfl ?_
        refine caG rfl rfl (fun hg => ⟨_, rfl, rHas_ok H x.implements hx.il nm, rfl⟩) rfl rfl ?_
        refine fM rfl ?_
        refine caG rfl rfl (fun hg => ⟨_, rfl, member_ok H t hT.ml x.name, rfl⟩) rfl rfl ?_
        refine fM rfl ?_
        refine Run.cond rfl rfl (fun hp => ?_) (fun hp => ?_)
        · have hp' : isP t nm x = true := by simpa [isP] using hp
          refine fR rfl ?_
          refine apM sE B [x.name] rfl rfl rfl rfl rfl ?_
          refine fM rfl ?_
          refine aL rfl rfl rfl rfl rfl ?_
          refine fM rfl ?_
          exact rWeak 3 rfl (ih (B ++ [x.name]) ⟨by simp; omega, by simp, by rw [hB']; simp only [posL, hn, hp']; rw [htk]; simp⟩) rfl rfl rfl
        · have hp' : isP t nm x = false := by simpa [isP] using hp
          refine fR rfl ?_
          refine aL rfl rfl rfl rfl rfl ?_
          refine fM rfl ?_
          exact rWeak 3 rfl (ih B ⟨by omega, by simp, by rw [hB']; simp only [posL, hn, hp']; rw [htk]; simp⟩) rfl rfl rfl
    | false =>
      obtain rfl : B = [] := hB0 rfl
      have hB' : posF ds nm = [] := by simpa using hB
      refine fR rfl ?_
      refine lM rfl rfl rfl ?_
      refine fM rfl ?_
      refine Run.condF rfl rfl (by simp) ?_
      refine fR rfl ?_
      rw [hB']
      refine Run.fin rfl (EndOk.go ?_); exact .own rfl
end Go.GB.C11

/-
  D11C: contracts of chapter 11's functions: Possible of the program.
-/
namespace Go.GB.C11
open Go.GB
set_option linter.unusedSimpArgs false
set_option linter.unusedVariables false
set_option maxRecDepth 100000
set_option maxHeartbeats 2000000
variable {P : Program}

def bE (b : Bool) : T := .bool b
def hasK (M : List (Str × Bool)) (k : Str) : Bool := (kget k M).isSome
theorem hasK_kset (M : List (Str × Bool)) (x : Str) (k : Str) : hasK (kset x true M) k = (x == k || hasK M k) := by
  unfold hasK
  rw [kget_kset]
  by_cases h : k = x
  · subst h; simp
  · have h' : ¬ x = k := fun e => h e.symm
    simp [h, h']
/-- keys apart, all true -/
structure MOk (M : List (Str × Bool)) : Prop where
  nd : (M.map (·.1)).Nodup
  tr : ∀ e, e ∈ M → e.2 = true
theorem MOk.nil : MOk [] := ⟨by simp, by simp⟩
theorem kset_mem {M : List (Str × Bool)} {x : Str} {v : Bool} : ∀ {e : Str × Bool}, e ∈ kset x v M → e = (x, v) ∨ e ∈ M := by
  induction M with
  | nil => intro e h; simp [kset] at h; exact .inl h
  | cons a r ih =>
    intro e h
    simp only [kset] at h
    split at h
    · rcases List.mem_cons.1 h with h | h
      · exact .inl h
      · exact .inr (List.mem_cons_of_mem _ h)
    · rcases List.mem_cons.1 h with h | h
      · exact .inr (h ▸ List.mem_cons_self ..)
      · rcases ih h with h | h
        · exact .inl h
        · exact .inr (List.mem_cons_of_mem _ h)
theorem MOk.kset {M : List (Str × Bool)} (h : MOk M) (x : Str) : MOk (kset x true M) :=
  ⟨(kset_keys h.nd).1, fun e he => by rcases kset_mem he with rfl | he; rfl; exact h.tr e he⟩
theorem hasK_mem {M : List (Str × Bool)} {k : Str} (h : hasK M k = true) : ∃ e, e ∈ M ∧ e.1 = k := by
  unfold hasK at h
  induction M with
  | nil => simp [kget] at h
  | cons a r ih =>
    simp only [kget] at h
    split at h
    · rename_i e; exact ⟨a, List.mem_cons_self .., e.symm⟩
    · obtain ⟨e, h1, h2⟩ := ih h; exact ⟨e, List.mem_cons_of_mem _ h1, h2⟩
theorem mem_hasK {M : List (Str × Bool)} {e : Str × Bool} (h : e ∈ M) : hasK M e.1 = true := by
  unfold hasK
  induction M with
  | nil => cases h
  | cons a r ih =>
    simp only [kget]
    split
    · rfl
    · rename_i hne
      rcases List.mem_cons.1 h with rfl | h
      · exact absurd rfl hne
      · exact ih h
theorem MOk.get {M : List (Str × Bool)} (h : MOk M) (k : Str) : (kget k M).getD false = hasK M k := by
  have h2 := h.tr
  unfold hasK
  induction M with
  | nil => rfl
  | cons a r ih =>
    simp only [kget]
    split
    · simp [h2 a (List.mem_cons_self ..)]
    · exact ih ⟨(List.nodup_cons.1 (by simpa using h.nd)).2, fun e he => h2 e (List.mem_cons_of_mem _ he)⟩ fun e he => h2 e (List.mem_cons_of_mem _ he)

theorem kdrop_at {κ ν : Type} [DecidableEq κ] {e : κ × ν} : ∀ {l : List (κ × ν)} {i : Nat}, l[i]? = some e → (l.map (·.1)).Nodup → kdrop e.1 l = l.eraseIdx i
  | [], i, h, _ => by simp at h
  | w :: r, 0, h, hn => by simp at h; subst h; simp [kdrop]
  | w :: r, i + 1, h, hn => by
    simp only [List.map_cons, List.nodup_cons] at hn
    have h' : r[i]? = some e := by simpa using h
    have hne : ¬ e.1 = w.1 := fun heq => hn.1 (List.mem_map.2 ⟨e, List.mem_of_getElem? h', heq⟩)
    simp [kdrop, hne, kdrop_at h' hn.2]
theorem hasK_erase {M : List (Str × Bool)} (hM : MOk M) {e : Str × Bool} {i : Nat} (h : M[i]? = some e) (k : Str) : hasK (M.eraseIdx i) k = (hasK M k && !(k == e.1)) := by
  unfold hasK
  rw [← kdrop_at h hM.nd, kget_kdrop hM.nd]
  by_cases hk : k = e.1
  · simp [hk]
  · simp [hk]
theorem hasK_drop {M : List (Str × Bool)} (hM : MOk M) (x k : Str) : hasK (kdrop x M) k = (hasK M k && !(k == x)) := by
  unfold hasK
  rw [kget_kdrop hM.nd]
  by_cases hk : k = x
  · simp [hk]
  · simp [hk]
theorem kdrop_sub {M : List (Str × Bool)} (x : Str) : (kdrop x M).Sublist M := by
  induction M with
  | nil => exact List.Sublist.refl _
  | cons a r ih =>
    simp only [kdrop]
    split
    · exact List.sublist_cons_self ..
    · exact ih.cons_cons _
theorem MOk.sub {M M' : List (Str × Bool)} (h : MOk M) (hs : M'.Sublist M) : MOk M' :=
  ⟨h.nd.sublist (hs.map _), fun e he => h.tr e (hs.subset he)⟩
theorem nodup_at : ∀ {bs : List Nat} {i j s : Nat}, bs.Nodup → bs[i]? = some s → bs[j]? = some s → i = j
  | [], i, j, s, _, h, _ => by simp at h
  | b :: r, 0, 0, s, _, _, _ => rfl
  | b :: r, 0, j + 1, s, hn, h1, h2 => by
    simp at h1; subst h1
    exact absurd (List.mem_of_getElem? (by simpa using h2)) (List.nodup_cons.1 hn).1
  | b :: r, i + 1, 0, s, hn, h1, h2 => by
    simp at h2; subst h2
    exact absurd (List.mem_of_getElem? (by simpa using h1)) (List.nodup_cons.1 hn).1
  | b :: r, i + 1, j + 1, s, hn, h1, h2 => by
    exact congrArg (· + 1) (nodup_at (List.nodup_cons.1 hn).2 (by simpa using h1) (by simpa using h2))
/-- stamps that are still to come -/
def cntU (bs seen : List Nat) : Nat := bs.countP fun s => !decide (s ∈ seen)
theorem cntU_le (bs seen : List Nat) (s : Nat) : cntU bs (seen ++ [s]) ≤ cntU bs seen := by
  unfold cntU
  refine List.countP_mono_left fun x _ h => ?_
  simp at h ⊢; exact h.1
theorem cntU_lt {s : Nat} {seen : List Nat} (hs : s ∉ seen) : ∀ {bs : List Nat}, s ∈ bs → cntU bs (seen ++ [s]) < cntU bs seen
  | [], h => by cases h
  | b :: r, h => by
    have hle := cntU_le r seen s
    unfold cntU at hle ⊢
    simp only [List.countP_cons]
    rcases List.mem_cons.1 h with rfl | h
    · simp [hs]; simp at hle; omega
    · have ih := cntU_lt hs h
      unfold cntU at ih
      have : (if (!decide (b ∈ seen ++ [s])) = true then 1 else 0) ≤ (if (!decide (b ∈ seen)) = true then 1 else 0) := by
        by_cases hb : b ∈ seen
        · simp [hb]
        · by_cases hbs : b = s <;> simp [hb, hbs]
      omega
theorem cntU_erase (bs seen : List Nat) (i : Nat) : cntU (bs.eraseIdx i) seen ≤ cntU bs seen := (List.eraseIdx_sublist ..).countP_le
theorem zip_erase {α β : Type} : ∀ (l : List α) (r : List β) (i : Nat), (l.eraseIdx i).zip (r.eraseIdx i) = (l.zip r).eraseIdx i
  | [], r, i => by simp
  | a :: l, [], i => by cases i <;> simp
  | a :: l, b :: r, 0 => by simp
  | a :: l, b :: r, i + 1 => by simp [zip_erase l r i]

/-- what the loop along the map keeps -/
structure Lp (M : List (Str × Bool)) (bad : Str → Bool) (b : List (Str × Bool) × List Nat × List Nat) : Prop where
  ok : MOk b.1
  len : b.2.1.length = b.1.length
  nd : b.2.1.Nodup
  i1 : ∀ k, hasK b.1 k = true → hasK M k = true
  i2 : ∀ k, hasK M k = true → bad k = false → hasK b.1 k = true
  i3 : ∀ p, p ∈ b.1.zip b.2.1 → p.2 ∈ b.2.2 → bad p.1.1 = false
theorem Lp.keep {M : List (Str × Bool)} {bad : Str → Bool} {L : List (Str × Bool)} {bs seen : List Nat} (h : Lp M bad (L, bs, seen)) {i s : Nat} {e : Str × Bool} (he : L[i]? = some e) (hs : bs[i]? = some s) (hb : bad e.1 = false) : Lp M bad (L, bs, seen ++ [s]) := by
  refine ⟨h.ok, h.len, h.nd, h.i1, h.i2, fun p hp hps => ?_⟩
  rcases List.mem_append.1 hps with hps | hps
  · exact h.i3 p hp hps
  · simp at hps
    obtain ⟨j, hj⟩ := List.mem_iff_getElem?.1 hp
    obtain ⟨h1, h2⟩ := List.getElem?_zip_eq_some.1 hj
    rw [hps] at h2
    have := nodup_at h.nd hs h2
    subst this
    simp only at h1
    rw [he] at h1; simp at h1; rw [← h1]; exact hb
theorem Lp.drop {M : List (Str × Bool)} {bad : Str → Bool} {L : List (Str × Bool)} {bs seen : List Nat} (h : Lp M bad (L, bs, seen)) {i s : Nat} {e : Str × Bool} (he : L[i]? = some e) (hs : bs[i]? = some s) (hb : bad e.1 = true) : Lp M bad (L.eraseIdx i, bs.eraseIdx i, seen ++ [s]) := by
  have hlen : bs.length = L.length := h.len
  have hok : MOk L := h.ok
  refine ⟨hok.sub (List.eraseIdx_sublist ..), by show (bs.eraseIdx i).length = (L.eraseIdx i).length; rw [List.length_eraseIdx, List.length_eraseIdx, hlen], List.Nodup.sublist (List.eraseIdx_sublist ..) h.nd, fun k hk => ?_, fun k hk hkb => ?_, fun p hp hps => ?_⟩
  · have hk' : hasK (L.eraseIdx i) k = true := hk
    rw [hasK_erase hok he] at hk'
    simp at hk'
    exact h.i1 k hk'.1
  · show hasK (L.eraseIdx i) k = true
    rw [hasK_erase hok he]
    have h1 := h.i2 k hk hkb
    have hne : ¬ k = e.1 := by rintro rfl; rw [hb] at hkb; cases hkb
    simp [hne]; exact h1
  · have hp' : p ∈ (L.zip bs).eraseIdx i := by rw [← zip_erase]; exact hp
    have hpm : p ∈ L.zip bs := (List.eraseIdx_sublist ..).subset hp'
    rcases List.mem_append.1 hps with hps | hps
    · exact h.i3 p hpm hps
    · exfalso
      simp at hps
      have hz : (bs.eraseIdx i) = ((L.zip bs).eraseIdx i).map (·.2) := by
        rw [← zip_erase]
        rw [List.map_snd_zip (by rw [List.length_eraseIdx, List.length_eraseIdx, hlen]; exact Nat.le_refl _)]
      have hmem : s ∈ bs.eraseIdx i := by rw [hz, ← hps]; exact List.mem_map.2 ⟨p, hp', rfl⟩
      obtain ⟨j, hj⟩ := List.mem_iff_getElem?.1 hmem
      rw [List.getElem?_eraseIdx] at hj
      split at hj
      · have := nodup_at h.nd hs hj; omega
      · have := nodup_at h.nd hs hj; omega
theorem Lp.last {M : List (Str × Bool)} {bad : Str → Bool} {L : List (Str × Bool)} {bs seen : List Nat} (h : Lp M bad (L, bs, seen)) (hall : ∀ s, s ∈ bs → s ∈ seen) (k : Str) : hasK L k = (hasK M k && !(bad k)) := by
  have hlen : bs.length = L.length := h.len
  by_cases hk : hasK L k = true
  · obtain ⟨e, he, rfl⟩ := hasK_mem hk
    obtain ⟨i, hi⟩ := List.mem_iff_getElem?.1 he
    have hil : i < bs.length := by rw [hlen]; exact (List.getElem?_eq_some_iff.1 hi).1
    have hz : (L.zip bs)[i]? = some (e, bs[i]) := List.getElem?_zip_eq_some.2 ⟨hi, by simp [hil]⟩
    have := h.i3 (e, bs[i]) (List.mem_of_getElem? hz) (hall _ (by simp))
    have h1 := h.i1 e.1 hk
    simp only at this
    rw [hk, h1, this]; rfl
  · have hk' : hasK L k = false := by simpa using hk
    rw [hk']
    by_cases h1 : hasK M k = true
    · by_cases h2 : bad k = false
      · exact absurd (h.i2 k h1 h2) hk
      · have : bad k = true := by simpa using h2
        simp [this]
    · have : hasK M k = false := by simpa using h1
      simp [this]
end Go.GB.C11

/-
  D11D: contracts of chapter 11's functions: Possible of the program.
-/
namespace Go.GB.C11
open Go.GB
set_option linter.unusedSimpArgs false
set_option linter.unusedVariables false
set_option maxRecDepth 100000
set_option maxHeartbeats 2000000
variable {P : Program}

theorem str_comm (a b : Str) : (a == b) = (b == a) := by
  rw [Bool.eq_iff_iff]; simp only [beq_iff_eq]; exact eq_comm
/-- the names that Possible looks at -/
def initB (t : Def) (nm : Str) (ds : List Def) (k : Str) : Bool :=
  (t.kind == 1 && nm == k) || (t.kind == 2 && ds.any (fun x => decide (nm ∈ x.implements) && x.name == k)) || (t.kind == 3 && memF t.members k)
/-- the names that it leaves out -/
def badB (t : Def) (nm : Str) (ds : List Def) (k : Str) : Bool :=
  !(findDef k ds).isSome || ((findDef k ds).getD Def.zero).kind != 1 || (t.kind == 2 && !(decide (nm ∈ ((findDef k ds).getD Def.zero).implements)))
theorem find_first : ∀ {ds : List Def} {i : Nat} {x : Def}, ds[i]? = some x → firstF (ds.take i) x.name = true → findDef x.name ds = some x
  | [], i, x, h, _ => by simp at h
  | y :: r, 0, x, h, _ => by simp at h; subst h; simp [findDef]
  | y :: r, i + 1, x, h, hf => by
    have hne : ¬ (y.name == x.name) = true := by
      intro e; simp [firstF, e] at hf
    simp only [findDef]; rw [if_neg hne]
    refine find_first (i := i) (by simpa using h) ?_
    simp only [firstF, List.take_succ_cons, List.any_cons] at hf ⊢
    have : (y.name == x.name) = false := by simpa using hne
    rw [this, Bool.false_or] at hf; exact hf
theorem good_eq {ds : List Def} {t : Def} {nm : Str} {i : Nat} {x : Def} (h : ds[i]? = some x) (hf : firstF (ds.take i) x.name = true) : (initB t nm ds x.name && !(badB t nm ds x.name)) = (x.kind == 1 && isP t nm x) := by
  have e := find_first h hf
  have hm : x ∈ ds := List.mem_of_getElem? h
  unfold badB initB isP
  rw [e]
  simp only [Option.isSome_some, Option.getD_some, Bool.not_true, Bool.false_or, bne_b]
  by_cases h2 : t.kind = 2
  · have h1 : ¬ t.kind = 1 := by omega
    have h3 : ¬ t.kind = 3 := by omega
    by_cases hx : nm ∈ x.implements
    · have : (ds.any fun y => decide (nm ∈ y.implements) && y.name == x.name) = true := List.any_eq_true.2 ⟨x, hm, by simp [hx]⟩
      simp [h2, hx, this]
    · simp [h2, hx]
  · have e1 : (nm == x.name) = (x.name == nm) := str_comm _ _
    have h2' : (t.kind == 2) = false := by simpa using h2
    simp only [h2', e1, Bool.false_and, Bool.or_false, Bool.and_comm]
    cases (t.kind == 1 && x.name == nm) <;> cases (t.kind == 3 && memF t.members x.name) <;> cases (x.kind == 1) <;> rfl
theorem posL_zero (nm : Str) : ∀ (r pre : List Def), posL Def.zero nm pre r = []
  | [], pre => rfl
  | o :: r, pre => by
    have : isP Def.zero nm o = false := rfl
    simp only [posL, this, Bool.and_false, Bool.false_eq_true, if_false]
    exact posL_zero nm r _
theorem posF_eq (ds : List Def) (nm : Str) : posF ds nm = posL ((findDef nm ds).getD Def.zero) nm [] ds := by
  unfold posF
  cases findDef nm ds with
  | none => simp [posL_zero]
  | some t => rfl
theorem firstF_snoc (l : List Def) (x : Def) (k : Str) : firstF (l ++ [x]) k = (firstF l k && !(x.name == k)) := by
  simp [firstF, List.any_append, Bool.not_or]

theorem possible_ok (H : Pr P) (ds : List Def) (hD : DocOk ds) (nm : Str) : FnOk P 46 [docV ds, .t (.str nm)] ⟨[], 0⟩ { v := .t (.lst ((posF ds nm).map sE)) } := by
  have hl := hD.l
  have hlb := hD.lb
  have hT := docFind hD nm
  have hpos := posF_eq ds nm
  refine FnOk.run H.i46 H.mixed rfl rfl ?_
  refine fR rfl ?_
  refine Mid.call (find_ok H ds hl nm) rfl rfl rfl rfl ?_
  refine fM rfl ?_
  generalize (findDef nm ds).getD Def.zero = t at hT hpos
  have tail : ∀ M : List (Str × Bool), MOk M → (∀ k, hasK M k = initB t nm ds k) → Run P n46 (⟨[], 0⟩ : S).nxt (EndOk ⟨[], 0⟩ { v := .t (.lst ((posF ds nm).map sE)) } r46 AExit.ret)
      [It.c (.region false [⟨some 60, none, .mv (.s 7)⟩, ⟨some 61, none, .mrange (.s 60)⟩] [] [1, 2, 5, 7, 61]), It.c c46_23, It.c c46_13]
      { env := [(1, .t (.str nm)), (2, .ptr 0 0), (5, .ptr 1 0), (7, .mp 2)], s := ⟨[(0, .cells [.t (.lst (ds.map Def.enc))]), (1, .cells [.t (.int .i64 t.kind), .t (.str t.name), .t (.lst (t.implements.map sE)), .t (.lst (t.dirs.map Dir.enc)), .t (.lst (t.fields.map Field.enc)), .t (.lst (t.members.map Member.enc)), .t (.lst (t.inputs.map Input.enc))]), (2, .map false (mE sE bE M) none)], 3⟩ } := by
    intro M hM hMk
    refine Run.learn (q := 2) rfl rfl (fun cl bs hbl hbn hblt => ?_)
    refine fR rfl ?_
    refine Mid.mrangeT rfl rfl rfl ?_
    refine Mid.done0 rfl ?_
    refine rLoopM (β := List (Str × Bool) × List Nat × List Nat) (fun b => { env := [(1, .t (.str nm)), (2, .ptr 0 0), (5, .ptr 1 0), (7, .mp 2), (61, .ptr 3 0)], s := ⟨[(0, .cells [.t (.lst (ds.map Def.enc))]), (1, .cells [.t (.int .i64 t.kind), .t (.str t.name), .t (.lst (t.implements.map sE)), .t (.lst (t.dirs.map Dir.enc)), .t (.lst (t.fields.map Field.enc)), .t (.lst (t.members.map Member.enc)), .t (.lst (t.inputs.map Input.enc))]), (2, .map false (mE sE bE b.1) (some (cl, b.2.1))), (3, .iter 2 cl b.2.2 cl)], 4⟩ })
      (Lp M (badB t nm ds)) (fun b => cntU b.2.1 b.2.2) 4 (M, bs, []) rfl ⟨hM, by simpa [mE] using hbl, hbn, fun _ h => h, fun _ h _ => h, fun p hp h => by cases h⟩ rfl rfl rfl ?_
    rintro ⟨L, bs', seen⟩ hinv ih
    refine Run.nxt rfl rfl rfl rfl rfl (fun hall => ?_) (fun i e s he hs hns => ?_)
    · have hG := hinv.last hall
      have hLok : MOk L := hinv.ok
      refine fM rfl ?_
      refine Run.condF rfl rfl rfl ?_
      refine fR rfl ?_
      refine lM rfl rfl rfl ?_
      refine fM rfl ?_
      refine rList ds (fun i (B : List Str × List (Str × Bool)) => { env := [(7, .mp 2), (15, .own 4 1 (B.1.map sE)), (93, .t (.lst (ds.map Def.enc))), (94, .t (.int .i64 ds.length)), (95, .t (.int .i64 i))], s := ⟨[(2, .map false (mE sE bE B.2) none), (4, .arr B.1.length)], 5⟩ }) (fun r i B => B.1.length ≤ i ∧ MOk B.2 ∧ (∀ k, hasK B.2 k = (hasK L k && firstF (ds.take i) k)) ∧ posF ds nm = B.1 ++ posL t nm (ds.take i) r) 4 ([], L) rfl ⟨by simp, hLok, by intro k; simp [firstF], by rw [hpos]; simp⟩ rfl rfl rfl ?_ ?_
      · rintro ⟨B, N⟩ ⟨_, _, _, hB⟩
        obtain rfl : B = posF ds nm := by rw [hB]; simp [posL]
        refine fR rfl ?_
        refine Run.condF rfl rfl (by simp) ?_
        refine fR rfl ?_
        refine Run.fin rfl (EndOk.go ?_); exact .own rfl
      · rintro i x r ⟨B, N⟩ h1 hi hd ⟨hBl, hN, hNk, hB⟩ ih2
        have hBl' : B.length ≤ i := hBl
        have hNok : MOk N := hN
        have htk : ds.take i ++ [x] = ds.take (i + 1) := by rw [List.take_add_one, h1]; rfl
        have hx := hNk x.name
        refine fR rfl ?_
        refine Run.condT rfl rfl (by simp; omega) ?_
        refine fR rfl ?_
        refine Mid.elemMap rfl rfl rfl h1 rfl rfl ?_
        refine fM rfl ?_
        refine Mid.lookT (x.name) rfl rfl rfl rfl rfl (sE_ok) rfl ?_
        refine fM rfl ?_
        rw [hNok.get]
        refine Run.cond rfl rfl (fun hc => ?_) (fun hc => ?_)
        · have hc2 : hasK L x.name = true ∧ firstF (ds.take i) x.name = true := by
            have : hasK N x.name = true := hc
            rw [this] at hx; simpa using hx.symm
          have hg : (x.kind == 1 && isP t nm x) = true := by rw [← good_eq h1 hc2.2, ← hMk, ← hG]; exact hc2.1
          have hsel : (x.kind == 1 && firstF (ds.take i) x.name && isP t nm x) = true := by
            rw [hc2.2, Bool.and_true]; exact hg
          refine fR rfl ?_
          refine apM sE B [x.name] rfl rfl rfl rfl rfl ?_
          refine fM rfl ?_
          refine Mid.delT x.name rfl rfl rfl sE_ok rfl ?_
          refine fM rfl ?_
          refine aL rfl rfl rfl rfl rfl ?_
          refine fM rfl ?_
          exact rWeak 5 rfl (ih2 (B ++ [x.name], kdrop x.name N) ⟨by simp; omega, hNok.sub (kdrop_sub _), by
            intro k
            show hasK (kdrop x.name N) k = _
            rw [hasK_drop hNok, show hasK N k = _ from hNk k, ← htk, firstF_snoc]
            rw [str_comm k x.name, Bool.and_assoc], by rw [hB]; simp only [posL]; rw [if_pos hsel, htk]; simp⟩) rfl rfl rfl
        · have hcN : hasK N x.name = false := hc
          have hsel : ¬ (x.kind == 1 && firstF (ds.take i) x.name && isP t nm x) = true := by
            intro hs
            simp only [Bool.and_eq_true] at hs
            have hg : (x.kind == 1 && isP t nm x) = true := by rw [hs.1.1, hs.2]; rfl
            rw [← good_eq h1 hs.1.2, ← hMk, ← hG] at hg
            rw [hcN, hg, hs.1.2] at hx
            cases hx
          refine fR rfl ?_
          refine aL rfl rfl rfl rfl rfl ?_
          refine fM rfl ?_
          exact rWeak 5 rfl (ih2 (B, N) ⟨by omega, hNok, by
            intro k
            show hasK N k = _
            rw [show hasK N k = _ from hNk k, ← htk, firstF_snoc]
            by_cases e : x.name = k
            · subst e
              rw [show hasK N x.name = _ from hNk x.name] at hcN
              rw [hcN]; simp
            · have e' : (x.name == k) = false := by simpa using e
              rw [e']; simp, by rw [hB]; simp only [posL]; rw [if_neg hsel, htk]⟩) rfl rfl rfl
    · have hbn' : bs'.Nodup := hinv.nd
      have hLok : MOk L := hinv.ok
      have hsm : s ∈ bs' := List.mem_of_getElem? hs
      have hO := docFind hD e.1
      have hil := hO.il
      have hlt : cntU bs' (seen ++ [s]) < cntU bs' seen := cntU_lt hns hsm
      refine fM rfl ?_
      refine Run.condT rfl rfl rfl ?_
      refine fR rfl ?_
      refine Mid.ientT (i := i) (z := s) rfl rfl rfl (by simp) he hs hbn' rfl ?_
      refine fM rfl ?_
      refine Mid.call (find_ok H ds hl e.1) rfl rfl rfl rfl ?_
      refine fM rfl ?_
      refine caG rfl rfl (fun hg => ⟨_, rfl, implements_ok H ((findDef e.1 ds).getD Def.zero) hO nm, rfl⟩) rfl rfl ?_
      refine fM rfl ?_
      refine Run.cond rfl rfl (fun hb => ?_) (fun hb => ?_)
      · have hb' : badB t nm ds e.1 = true := by simpa [badB, bne_b] using hb
        refine fR rfl ?_
        refine Mid.delI (i := i) rfl rfl he hLok.nd rfl sE_ok rfl ?_
        refine fM rfl ?_
        exact rWeak 4 rfl (ih (L.eraseIdx i, bs'.eraseIdx i, seen ++ [s]) (by have := cntU_erase bs' (seen ++ [s]) i; show cntU (bs'.eraseIdx i) (seen ++ [s]) < cntU bs' seen; omega) (hinv.drop he hs hb')) rfl rfl rfl
      · have hb' : badB t nm ds e.1 = false := by simpa [badB, bne_b] using hb
        skip
        exact rWeak 4 rfl (ih (L, bs', seen ++ [s]) hlt (hinv.keep he hs hb')) rfl rfl rfl
  refine Mid.mkmapT sE bE rfl ?_
  refine fM rfl ?_
  refine Run.cond rfl rfl (fun h1 => ?_) (fun h1 => ?_)
  · have h1' : t.kind = 1 := by simpa using h1
    refine fR rfl ?_
    refine Mid.mapT nm rfl rfl rfl rfl sE_ok rfl ?_
    refine Mid.done0 rfl ?_
    exact rWeakC 3 rfl (tail (kset nm true []) (MOk.nil.kset nm) (by intro k; rw [hasK_kset]; simp [initB, h1', hasK, kget])) rfl rfl rfl
  · have h1' : ¬ t.kind = 1 := by simpa using h1
    refine fR rfl ?_
    refine Run.cond rfl rfl (fun h2 => ?_) (fun h2 => ?_)
    · have h2' : t.kind = 2 := by simpa using h2
      refine fR rfl ?_
      refine lM rfl rfl rfl ?_
      refine fM rfl ?_
      refine rList ds (fun i (M : List (Str × Bool)) => { env := [(1, .t (.str nm)), (2, .ptr 0 0), (5, .ptr 1 0), (7, .mp 2), (34, .t (.lst (ds.map Def.enc))), (35, .t (.int .i64 ds.length)), (36, .t (.int .i64 i))], s := ⟨[(0, .cells [.t (.lst (ds.map Def.enc))]), (1, .cells [.t (.int .i64 t.kind), .t (.str t.name), .t (.lst (t.implements.map sE)), .t (.lst (t.dirs.map Dir.enc)), .t (.lst (t.fields.map Field.enc)), .t (.lst (t.members.map Member.enc)), .t (.lst (t.inputs.map Input.enc))]), (2, .map false (mE sE bE M) none)], 3⟩ }) (fun r i M => MOk M ∧ ∀ k, (hasK M k || r.any (fun x => decide (nm ∈ x.implements) && x.name == k)) = ds.any (fun x => decide (nm ∈ x.implements) && x.name == k)) 3 [] rfl ⟨MOk.nil, fun k => by simp [hasK, kget]⟩ rfl rfl rfl ?_ ?_
      · rintro M ⟨hM, hMk⟩
        refine fR rfl ?_
        refine Run.condF rfl rfl (by simp) ?_
        exact rWeakC 3 rfl (tail M hM (by intro k; have := hMk k; simp only [List.any_nil, Bool.or_false] at this; rw [this]; simp [initB, h2'])) rfl rfl rfl
      · rintro i x r M hx1 hi hd ⟨hM, hMk⟩ ih
        have hxo := hD.d x (List.mem_of_getElem? hx1)
        refine fR rfl ?_
        refine Run.condT rfl rfl (by simp; omega) ?_
        refine fR rfl ?_
        refine Mid.elemMap rfl rfl rfl hx1 rfl rfl ?_
        refine fM rfl ?_
        refine Mid.call (implements_ok H x hxo nm) rfl rfl rfl rfl ?_
        refine fM rfl ?_
        refine Run.cond rfl rfl (fun hc => ?_) (fun hc => ?_)
        · refine fR rfl ?_
          refine Mid.mapT (x.name) rfl rfl rfl rfl (sE_ok) rfl ?_
          refine fM rfl ?_
          refine aL rfl rfl rfl rfl rfl ?_
          refine fM rfl ?_
          exact rWeak 3 rfl (ih (kset x.name true M) ⟨hM.kset _, fun k => by
            rw [← hMk k, hasK_kset]
            have : decide (nm ∈ x.implements) = true := hc
            simp only [List.any_cons, this, Bool.true_and]
            cases (x.name == k) <;> cases (hasK M k) <;> simp⟩) rfl rfl rfl
        · refine fR rfl ?_
          refine aL rfl rfl rfl rfl rfl ?_
          refine fM rfl ?_
          exact rWeak 3 rfl (ih M ⟨hM, fun k => by
            rw [← hMk k]
            have : decide (nm ∈ x.implements) = false := hc
            simp only [List.any_cons, this, Bool.false_and, Bool.false_or]⟩) rfl rfl rfl
    · have h2' : ¬ t.kind = 2 := by simpa using h2
      refine fR rfl ?_
      refine Run.cond rfl rfl (fun h3 => ?_) (fun h3 => ?_)
      · have h3' : t.kind = 3 := by simpa using h3
        have hml := hT.ml
        refine fR rfl ?_
        refine lM rfl rfl rfl ?_
        refine fM rfl ?_
        refine rList t.members (fun i (M : List (Str × Bool)) => { env := [(1, .t (.str nm)), (2, .ptr 0 0), (5, .ptr 1 0), (7, .mp 2), (50, .t (.lst (t.members.map Member.enc))), (51, .t (.int .i64 t.members.length)), (52, .t (.int .i64 i))], s := ⟨[(0, .cells [.t (.lst (ds.map Def.enc))]), (1, .cells [.t (.int .i64 t.kind), .t (.str t.name), .t (.lst (t.implements.map sE)), .t (.lst (t.dirs.map Dir.enc)), .t (.lst (t.fields.map Field.enc)), .t (.lst (t.members.map Member.enc)), .t (.lst (t.inputs.map Input.enc))]), (2, .map false (mE sE bE M) none)], 3⟩ }) (fun r i M => MOk M ∧ ∀ k, (hasK M k || memF r k) = memF t.members k) 3 [] rfl ⟨MOk.nil, fun k => by simp [hasK, kget]⟩ rfl rfl rfl ?_ ?_
        · rintro M ⟨hM, hMk⟩
          refine fR rfl ?_
          refine Run.condF rfl rfl (by simp) ?_
          exact rWeakC 3 rfl (tail M hM (by intro k; have := hMk k; simp only [memF, List.any_nil, Bool.or_false] at this; rw [this]; simp [initB, h3', memF])) rfl rfl rfl
        · rintro i x r M hx1 hi hd ⟨hM, hMk⟩ ih
          refine fR rfl ?_
          refine Run.condT rfl rfl (by simp; omega) ?_
          refine fR rfl ?_
          refine Mid.elemMap rfl rfl rfl hx1 rfl rfl ?_
          refine fM rfl ?_
          refine Mid.mapT (x.name) rfl rfl rfl rfl (sE_ok) rfl ?_
          refine fM rfl ?_
          refine aL rfl rfl rfl rfl rfl ?_
          refine fM rfl ?_
          exact rWeak 3 rfl (ih (kset x.name true M) ⟨hM.kset _, fun k => by
            rw [← hMk k, hasK_kset]
            simp only [memF, List.any_cons]
            cases (x.name == k) <;> cases (hasK M k) <;> simp⟩) rfl rfl rfl
      · have h3' : ¬ t.kind = 3 := by simpa using h3
        exact rWeakC 3 rfl (tail [] MOk.nil (by intro k; simp [initB, hasK, kget, h1', h2', h3'])) rfl rfl rfl
end Go.GB.C11

/-
  D11E: contracts of chapter 11's functions: types of fields (typeref), Is, Sub.
-/
namespace Go.GB.C11
open Go.GB
set_option linter.unusedSimpArgs false
set_option linter.unusedVariables false
set_option maxRecDepth 100000
set_option maxHeartbeats 2000000
variable {P : Program}

/- wrappers -/
def nnF : List Int → Bool
  | [] => false
  | w :: _ => w == 1
def nullF : List Int → List Int
  | [] => []
  | w :: r => if (w == 1) = true then r else w :: r
def headL : List Int → Bool
  | [] => false
  | w :: _ => w == 2
def lstF (w : List Int) : Bool := headL (nullF w)
theorem nullF_le (w : List Int) : (nullF w).length ≤ w.length := by
  cases w with
  | nil => simp [nullF]
  | cons a r => simp only [nullF]; split <;> simp
theorem nullF_nn {w : List Int} (h : nnF w = true) : nullF w = w.tail := by
  cases w with
  | nil => cases h
  | cons a r => simp only [nnF] at h; simp only [nullF]; rw [if_pos h]; rfl
theorem nullF_n {w : List Int} (h : ¬ nnF w = true) : nullF w = w := by
  cases w with
  | nil => rfl
  | cons a r => simp only [nnF] at h; simp only [nullF]; rw [if_neg h]

theorem nn_step (f : FuncId) (hi : fnInfo P f = some (n95, c95.bare, r95)) (hm : P.follows .mixedOrders = true) (t : Ref) (ht : t.Ok) : FnOk P f [t.v] ⟨[], 0⟩ { v := .t (.bool (nnF t.wraps)) } := by
  have hl := ht.l
  obtain ⟨n, w⟩ := t
  refine FnOk.run hi hm rfl rfl ?_
  cases w with
  | nil =>
    refine fR rfl ?_
    refine lM rfl rfl rfl ?_
    refine fM rfl ?_
    refine Mid.grdF rfl rfl rfl rfl rfl ?_
    refine Mid.grdF rfl rfl rfl rfl rfl ?_
    refine Mid.grdF rfl rfl rfl rfl rfl ?_
    refine fM rfl ?_
    refine Run.fin rfl (EndOk.go ?_); exact .t rfl
  | cons a r =>
    refine fR rfl ?_
    refine lM rfl rfl rfl ?_
    refine fM rfl ?_
    refine gr rfl ?_
    refine fM rfl ?_
    refine Run.fin rfl (EndOk.go ?_); exact .t (by simp [nnF])
theorem nn_ok (H : Pr P) (t : Ref) (ht : t.Ok) : FnOk P 95 [t.v] ⟨[], 0⟩ { v := .t (.bool (nnF t.wraps)) } := nn_step 95 H.i95 H.mixed t ht
theorem rNn_ok (H : Pr P) (t : Ref) (ht : t.Ok) : FnOk P 98 [t.v] ⟨[], 0⟩ { v := .t (.bool (nnF t.wraps)) } := nn_step 98 H.i98 H.mixed t ht

theorem cloneI_ok (H : Pr P) (l : List Int) (hl : l.length * 8 ≤ 140737488355328) : FnOk P 143 [.t (.lst (l.map nE))] ⟨[], 0⟩ { v := .t (.lst (l.map nE)) } := by
  refine FnOk.run H.i143 H.mixed rfl rfl ?_
  refine fR rfl ?_
  refine p0 rfl ?_
  refine fM rfl ?_
  refine Run.condU rfl rfl (fun h => ?_) (fun _ => ?_)
  · have hn : l = [] := by
      cases l with
      | nil => rfl
      | cons x r =>
        have := h (nE x) (by simp)
        simp [nE] at this
    subst hn
    refine fR rfl ?_
    refine Run.fin rfl (EndOk.go ?_); exact .nil rfl
  · refine fR rfl ?_
    refine apN nE l rfl rfl rfl ?_ (h1 := hl) (h2 := by omega)
    refine fM rfl ?_
    refine Run.fin rfl (EndOk.go ?_); exact .own rfl
theorem nullOk {t : Ref} (ht : t.Ok) : (⟨t.name, nullF t.wraps⟩ : Ref).Ok := ⟨by have := nullF_le t.wraps; have := ht.l; show (nullF t.wraps).length * 8 ≤ _; omega, ht.nm⟩
theorem nullable_ok (H : Pr P) (t : Ref) (ht : t.Ok) : FnOk P 96 [t.v] ⟨[], 0⟩ { v := (⟨t.name, nullF t.wraps⟩ : Ref).v } := by
  have hl := ht.l
  have hn := nn_ok H t ht
  have hno := (nullOk ht).l
  obtain ⟨n, w⟩ := t
  refine FnOk.run H.i96 H.mixed rfl rfl ?_
  refine fR rfl ?_
  refine Mid.call (hn) rfl rfl rfl rfl ?_
  refine fM rfl ?_
  refine Run.cond rfl rfl (fun h => ?_) (fun h => ?_)
  · have h' : nnF w = true := h
    cases w with
    | nil => cases h'
    | cons a r =>
      have e : nullF (a :: r) = r := nullF_nn h'
      refine fR rfl ?_
      refine lF1 rfl rfl rfl rfl ?_
      refine fM rfl ?_

      refine Mid.call (cloneI_ok H r (by simp at hl; omega)) rfl rfl rfl rfl ?_
      refine fM rfl ?_
      refine Run.fin rfl (EndOk.go ?_); exact .agg (.cons (.t rfl) (.cons (.t (by rw [e])) .nil))
  · have h' : ¬ nnF w = true := by rw [show nnF w = false from h]; simp
    refine fR rfl ?_
    refine Mid.call (cloneI_ok H w hl) rfl rfl rfl rfl ?_
    refine fM rfl ?_
    refine Run.fin rfl (EndOk.go ?_); exact .agg (.cons (.t rfl) (.cons (.t (by rw [nullF_n h'])) .nil))
theorem cut_ok (H : Pr P) (n : Str) (a : Int) (r : List Int) (hl : r.length * 8 ≤ 140737488355320) : FnOk P 145 [(⟨n, a :: r⟩ : Ref).v] ⟨[], 0⟩ { v := (⟨n, r⟩ : Ref).v } := by
  refine FnOk.run H.i145 H.mixed rfl rfl ?_
  refine fR rfl ?_
  refine lF1 rfl rfl rfl rfl ?_

  refine apN nE r rfl rfl rfl ?_ (h1 := by omega) (h2 := by omega)
  refine fM rfl ?_
  refine Run.fin rfl (EndOk.go ?_); exact .agg (.cons (.t rfl) (.cons (.own rfl) .nil))
theorem rNullable_ok (H : Pr P) (t : Ref) (ht : t.Ok) : FnOk P 99 [t.v] ⟨[], 0⟩ { v := (⟨t.name, nullF t.wraps⟩ : Ref).v } := by
  have hl := ht.l
  have hn := rNn_ok H t ht
  obtain ⟨n, w⟩ := t
  refine FnOk.run H.i99 H.mixed rfl rfl ?_
  refine fR rfl ?_
  refine Mid.call (hn) rfl rfl rfl rfl ?_
  refine fM rfl ?_
  refine Run.cond rfl rfl (fun h => ?_) (fun h => ?_)
  · have h' : nnF w = true := h
    cases w with
    | nil => cases h'
    | cons a r =>
      have e : nullF (a :: r) = r := nullF_nn h'
      refine fR rfl ?_
      refine Mid.call (cut_ok H n a r (by simp at hl; omega)) rfl rfl rfl rfl ?_
      refine fM rfl ?_
      refine Run.fin rfl (EndOk.go ?_); exact .agg (.cons (.t rfl) (.cons (.t (by rw [e])) .nil))
  · have h' : ¬ nnF w = true := by rw [show nnF w = false from h]; simp
    refine fR rfl ?_
    refine apN nE w rfl rfl rfl ?_ (h1 := hl) (h2 := by simp at hl; omega)
    refine fM rfl ?_
    refine Run.fin rfl (EndOk.go ?_); exact .agg (.cons (.t rfl) (.cons (.own (by rw [nullF_n h'])) .nil))
end Go.GB.C11

/-
  D11F: contracts of chapter 11's functions: lists among types, Is, Sub.
-/
namespace Go.GB.C11
open Go.GB
set_option linter.unusedSimpArgs false
set_option linter.unusedVariables false
set_option maxRecDepth 100000
set_option maxHeartbeats 2000000
variable {P : Program}

theorem isList_ok (H : Pr P) (t : Ref) (ht : t.Ok) : FnOk P 144 [t.v] ⟨[], 0⟩ { v := .t (.bool (lstF t.wraps)) } := by
  have hn := nullable_ok H t ht
  unfold lstF
  generalize nullF t.wraps = N at hn
  refine FnOk.run H.i144 H.mixed rfl rfl ?_
  refine fR rfl ?_
  refine Mid.call (hn) rfl rfl rfl rfl ?_
  refine fM rfl ?_
  refine lM rfl rfl rfl ?_
  refine fM rfl ?_
  cases N with
  | nil =>
    refine Mid.grdF rfl rfl rfl rfl rfl ?_
    refine Mid.grdF rfl rfl rfl rfl rfl ?_
    refine Mid.grdF rfl rfl rfl rfl rfl ?_
    refine fM rfl ?_
    refine Run.fin rfl (EndOk.go ?_); exact .t rfl
  | cons a r =>
    refine gr rfl ?_
    refine fM rfl ?_
    refine Run.fin rfl (EndOk.go ?_); exact .t (by simp [headL])
theorem rIsList_ok (H : Pr P) (t : Ref) (ht : t.Ok) : FnOk P 146 [t.v] ⟨[], 0⟩ { v := .t (.bool (lstF t.wraps)) } := by
  have hn := rNullable_ok H t ht
  unfold lstF
  generalize nullF t.wraps = N at hn
  refine FnOk.run H.i146 H.mixed rfl rfl ?_
  refine fR rfl ?_
  refine Mid.call (hn) rfl rfl rfl rfl ?_
  refine fM rfl ?_
  refine lM rfl rfl rfl ?_
  refine fM rfl ?_
  cases N with
  | nil =>
    refine Mid.grdF rfl rfl rfl rfl rfl ?_
    refine Mid.grdF rfl rfl rfl rfl rfl ?_
    refine Mid.grdF rfl rfl rfl rfl rfl ?_
    refine fM rfl ?_
    refine Run.fin rfl (EndOk.go ?_); exact .t rfl
  | cons a r =>
    refine gr rfl ?_
    refine fM rfl ?_
    refine Run.fin rfl (EndOk.go ?_); exact .t (by simp [headL])
theorem lst_cons {w : List Int} (h : lstF w = true) : ∃ r, nullF w = 2 :: r := by
  unfold lstF at h
  cases hn : nullF w with
  | nil => rw [hn] at h; cases h
  | cons a r => rw [hn] at h; simp [headL] at h; subst h; exact ⟨r, rfl⟩
theorem innerT_ok (H : Pr P) (t : Ref) (ht : t.Ok) (h : lstF t.wraps = true) : FnOk P 97 [t.v] ⟨[], 0⟩ { v := .tup [(⟨t.name, (nullF t.wraps).tail⟩ : Ref).v, .t (.bool true)] } := by
  have hn := nullable_ok H t ht
  have hi := isList_ok H t ht
  rw [h] at hi
  obtain ⟨r, hr⟩ := lst_cons h
  rw [hr] at hn ⊢
  refine FnOk.run H.i97 H.mixed rfl rfl ?_
  refine fR rfl ?_
  refine Mid.call (hi) rfl rfl rfl rfl ?_
  refine fM rfl ?_
  refine Run.condF rfl rfl rfl ?_
  refine fR rfl ?_
  refine Mid.call (hn) rfl rfl rfl rfl ?_
  refine fM rfl ?_
  refine lF1 rfl rfl rfl rfl ?_
  refine fM rfl ?_
  refine Run.fin rfl (EndOk.go ?_); exact .tup2 (.agg (.cons (.t rfl) (.cons (.t rfl) .nil))) (.t rfl)
theorem innerF_ok (H : Pr P) (t : Ref) (ht : t.Ok) (h : lstF t.wraps = false) : FnOk P 97 [t.v] ⟨[], 0⟩ { v := .tup [(⟨[], []⟩ : Ref).v, .t (.bool false)] } := by
  have hi := isList_ok H t ht
  rw [h] at hi
  refine FnOk.run H.i97 H.mixed rfl rfl ?_
  refine fR rfl ?_
  refine Mid.call (hi) rfl rfl rfl rfl ?_
  refine fM rfl ?_
  refine Run.condT rfl rfl rfl ?_
  refine fR rfl ?_
  refine Run.fin rfl (EndOk.go ?_); exact .tup2 (.agg (.cons (.t rfl) (.cons (.nil rfl) .nil))) (.t rfl)
theorem rInnerT_ok (H : Pr P) (t : Ref) (ht : t.Ok) (h : lstF t.wraps = true) : FnOk P 100 [t.v] ⟨[], 0⟩ { v := .tup [(⟨t.name, (nullF t.wraps).tail⟩ : Ref).v, .t (.bool true)] } := by
  have hn := rNullable_ok H t ht
  have hi := rIsList_ok H t ht
  rw [h] at hi
  obtain ⟨r, hr⟩ := lst_cons h
  have hlen := nullF_le t.wraps
  have hl := ht.l
  rw [hr] at hn hlen ⊢
  refine FnOk.run H.i100 H.mixed rfl rfl ?_
  refine fR rfl ?_
  refine Mid.call (hi) rfl rfl rfl rfl ?_
  refine fM rfl ?_
  refine Run.condF rfl rfl rfl ?_
  refine fR rfl ?_
  refine Mid.call (hn) rfl rfl rfl rfl ?_
  skip
  refine Mid.call (cut_ok H t.name 2 r (by simp at hlen; omega)) rfl rfl rfl rfl ?_
  refine fM rfl ?_
  refine Run.fin rfl (EndOk.go ?_); exact .tup2 (.agg (.cons (.t rfl) (.cons (.t rfl) .nil))) (.t rfl)
theorem rInnerF_ok (H : Pr P) (t : Ref) (ht : t.Ok) (h : lstF t.wraps = false) : FnOk P 100 [t.v] ⟨[], 0⟩ { v := .tup [(⟨[], []⟩ : Ref).v, .t (.bool false)] } := by
  have hi := rIsList_ok H t ht
  rw [h] at hi
  refine FnOk.run H.i100 H.mixed rfl rfl ?_
  refine fR rfl ?_
  refine Mid.call (hi) rfl rfl rfl rfl ?_
  refine fM rfl ?_
  refine Run.condT rfl rfl rfl ?_
  refine fR rfl ?_
  refine Run.fin rfl (EndOk.go ?_); exact .tup2 (.agg (.cons (.t rfl) (.cons (.nil rfl) .nil))) (.t rfl)

/-- is it a possible type? -/
def isF (ds : List Def) (o n : Str) : Bool := decide (o ∈ posF ds n)
theorem posL_len (t : Def) (nm : Str) : ∀ (r pre : List Def), (posL t nm pre r).length ≤ r.length
  | [], pre => by simp [posL]
  | o :: r, pre => by
    have := posL_len t nm r (pre ++ [o])
    simp only [posL]
    split <;> simp <;> omega
theorem posF_len (ds : List Def) (nm : Str) : (posF ds nm).length ≤ ds.length := by
  rw [posF_eq]; exact posL_len _ nm ds []
theorem is_ok (H : Pr P) (ds : List Def) (hD : DocOk ds) (o n : Str) : FnOk P 31 [docV ds, .t (.str o), .t (.str n)] ⟨[], 0⟩ { v := .t (.bool (isF ds o n)) } := by
  have hl := posF_len ds n
  have := hD.l
  refine FnOk.run H.i31 H.mixed rfl rfl ?_
  refine fR rfl ?_
  refine Mid.call (possible_ok H ds hD n) rfl rfl rfl rfl ?_
  refine fM rfl ?_
  refine Mid.call (contains_ok H (posF ds n) (by omega) o) rfl rfl rfl rfl ?_
  refine fM rfl ?_
  refine Run.fin rfl (EndOk.go ?_); exact .t rfl
theorem rIs_ok (H : Pr P) (ds : List Def) (hD : DocOk ds) (o n : Str) : FnOk P 48 [docV ds, .t (.str o), .t (.str n)] ⟨[], 0⟩ { v := .t (.bool (isF ds o n)) } := by
  have hl := posF_len ds n
  have := hD.l
  refine FnOk.run H.i48 H.mixed rfl rfl ?_
  refine fR rfl ?_
  refine Mid.call (rPossible_ok H ds hD n) rfl rfl rfl rfl ?_
  refine fM rfl ?_
  refine Mid.call (rHas_ok H (posF ds n) (by omega) o) rfl rfl rfl rfl ?_
  refine fM rfl ?_
  refine Run.fin rfl (EndOk.go ?_); exact .t rfl

/-- Sub on wrappers -/
def subW (bas : Bool) : Nat → List Int → List Int → Bool
  | 0, _, _ => false
  | k + 1, a, b =>
    if nnF b = true then nnF a && subW bas k (nullF a) (nullF b)
    else if nnF a = true then subW bas k (nullF a) b
    else if (lstF a || lstF b) = true then lstF a && lstF b && subW bas k (nullF a).tail (nullF b).tail
    else bas
def subB (ds : List Def) (a b : Str) : Bool := a == b || isF ds a b
def SubC (P : Program) (f : Nat) (ds : List Def) (k : Nat) (a b : Ref) : Prop := FnOk P f [docV ds, a.v, b.v] ⟨[], 0⟩ { v := .t (.bool (subW (subB ds a.name b.name) k a.wraps b.wraps)) }
theorem tailOk {t : Ref} (ht : t.Ok) : (⟨t.name, (nullF t.wraps).tail⟩ : Ref).Ok := ⟨by
  have := nullF_le t.wraps; have := ht.l
  show (nullF t.wraps).tail.length * 8 ≤ _
  rw [List.length_tail]; omega, ht.nm⟩
theorem sub_step (H : Pr P) (ds : List Def) (hD : DocOk ds) (k : Nat) (a b : Ref) (ha : a.Ok) (hb : b.Ok)
    (hrec : ∀ x y : Ref, x.Ok → y.Ok → x.wraps.length + y.wraps.length < a.wraps.length + b.wraps.length → SubC P 52 ds k x y) : SubC P 52 ds (k + 1) a b := by
  unfold SubC
  refine FnOk.run H.i52 H.mixed rfl rfl ?_
  refine fR rfl ?_
  refine Mid.call (nn_ok H b hb) rfl rfl rfl rfl ?_
  refine fM rfl ?_
  refine Run.cond rfl rfl (fun h1 => ?_) (fun h1 => ?_)
  · have h1' : nnF b.wraps = true := h1
    have e : subW (subB ds a.name b.name) (k + 1) a.wraps b.wraps = (nnF a.wraps && subW (subB ds a.name b.name) k (nullF a.wraps) (nullF b.wraps)) := by simp only [subW]; rw [if_pos h1']
    have hc := hrec ⟨a.name, nullF a.wraps⟩ ⟨b.name, nullF b.wraps⟩ (nullOk ha) (nullOk hb) (by
      have := nullF_le a.wraps
      have h2 := nullF_nn h1'
      cases hw : b.wraps with
      | nil => rw [hw] at h1'; cases h1'
      | cons c r => rw [hw] at h2; simp only [h2]; simp; omega)
    unfold SubC at hc
    refine fR rfl ?_
    refine Mid.call (nn_ok H a ha) rfl rfl rfl rfl ?_
    refine fM rfl ?_
    refine caG rfl rfl (fun hg => ⟨_, rfl, nullable_ok H a ha, rfl⟩) rfl rfl ?_
    refine fM rfl ?_
    refine caG rfl rfl (fun hg => ⟨_, rfl, nullable_ok H b hb, rfl⟩) rfl rfl ?_
    skip
    refine caG rfl rfl (fun hg => ⟨_, rfl, hc, rfl⟩) rfl rfl ?_
    refine fM rfl ?_
    refine Run.fin rfl (EndOk.go ?_); exact .t (by rw [e])
  · have h1' : ¬ nnF b.wraps = true := by rw [show nnF b.wraps = false from h1]; simp
    refine fR rfl ?_
    refine Mid.call (nn_ok H a ha) rfl rfl rfl rfl ?_
    refine fM rfl ?_
    refine Run.cond rfl rfl (fun h2 => ?_) (fun h2 => ?_)
    · have h2' : nnF a.wraps = true := h2
      have e : subW (subB ds a.name b.name) (k + 1) a.wraps b.wraps = subW (subB ds a.name b.name) k (nullF a.wraps) b.wraps := by simp only [subW]; rw [if_neg h1', if_pos h2']
      have hc := hrec ⟨a.name, nullF a.wraps⟩ b (nullOk ha) hb (by
        have h2 := nullF_nn h2'
        cases hw : a.wraps with
        | nil => rw [hw] at h2'; cases h2'
        | cons c r => rw [hw] at h2; simp only [h2]; simp)
      unfold SubC at hc
      refine fR rfl ?_
      refine Mid.call (nullable_ok H a ha) rfl rfl rfl rfl ?_
      refine fM rfl ?_
      refine Mid.call (hc) rfl rfl rfl rfl ?_
      refine fM rfl ?_
      refine Run.fin rfl (EndOk.go ?_); exact .t (by rw [e])
    · have h2' : ¬ nnF a.wraps = true := by rw [show nnF a.wraps = false from h2]; simp
      have e : subW (subB ds a.name b.name) (k + 1) a.wraps b.wraps = if (lstF a.wraps || lstF b.wraps) = true then lstF a.wraps && lstF b.wraps && subW (subB ds a.name b.name) k (nullF a.wraps).tail (nullF b.wraps).tail else subB ds a.name b.name := by simp only [subW]; rw [if_neg h1', if_neg h2']
      refine fR rfl ?_
      cases hla : lstF a.wraps with
      | true =>
        refine Mid.call (innerT_ok H a ha hla) rfl rfl rfl rfl ?_
        refine fM rfl ?_
        cases hlb : lstF b.wraps with
        | true =>
          have hc := hrec ⟨a.name, (nullF a.wraps).tail⟩ ⟨b.name, (nullF b.wraps).tail⟩ (tailOk ha) (tailOk hb) (by
            have h3 := nullF_le a.wraps
            have h4 := nullF_le b.wraps
            obtain ⟨r, hr⟩ := lst_cons hla
            rw [hr] at h3
            simp only [List.length_tail, hr]
            simp at h3 ⊢; omega)
          unfold SubC at hc
          rw [hla, hlb] at e
          refine Mid.call (innerT_ok H b hb hlb) rfl rfl rfl rfl ?_
          refine fM rfl ?_
          refine Run.condT rfl rfl rfl ?_
          refine fR rfl ?_
          refine Mid.ungd rfl rfl rfl ?_
          refine Mid.call (hc) rfl rfl rfl rfl ?_
          refine fM rfl ?_
          refine Run.fin rfl (EndOk.go ?_); exact .t (by rw [e]; rfl)
        | false =>
          rw [hla, hlb] at e
          refine Mid.call (innerF_ok H b hb hlb) rfl rfl rfl rfl ?_
          refine fM rfl ?_
          refine Run.condT rfl rfl rfl ?_
          refine fR rfl ?_
          refine Mid.grdF rfl rfl rfl rfl rfl ?_
          refine fM rfl ?_
          refine Run.fin rfl (EndOk.go ?_); exact .t (by rw [e]; rfl)
      | false =>
        refine Mid.call (innerF_ok H a ha hla) rfl rfl rfl rfl ?_
        refine fM rfl ?_
        cases hlb : lstF b.wraps with
        | true =>
          rw [hla, hlb] at e
          refine Mid.call (innerT_ok H b hb hlb) rfl rfl rfl rfl ?_
          refine fM rfl ?_
          refine Run.condT rfl rfl rfl ?_
          refine fR rfl ?_
          refine Mid.grdF rfl rfl rfl rfl rfl ?_
          refine fM rfl ?_
          refine Run.fin rfl (EndOk.go ?_); exact .t (by rw [e]; rfl)
        | false =>
          rw [hla, hlb] at e
          refine Mid.call (innerF_ok H b hb hlb) rfl rfl rfl rfl ?_
          refine fM rfl ?_
          refine Run.condF rfl rfl rfl ?_
          refine fR rfl ?_
          refine caG rfl rfl (fun hg => ⟨_, rfl, is_ok H ds hD a.name b.name, rfl⟩) rfl rfl ?_
          refine fM rfl ?_
          refine Run.fin rfl (EndOk.go ?_); exact .t (by rw [e]; rfl)
theorem sub_ok (H : Pr P) (ds : List Def) (hD : DocOk ds) : ∀ (k : Nat) (a b : Ref), a.wraps.length + b.wraps.length < k → a.Ok → b.Ok → SubC P 52 ds k a b
  | 0, a, b, h, _, _ => by omega
  | k + 1, a, b, h, ha, hb => sub_step H ds hD k a b ha hb fun x y hx hy hlt => sub_ok H ds hD k x y (by omega) hx hy
end Go.GB.C11

/-
  D11G: contracts of chapter 11's functions: Sub of the reference, Overlap, Strings.
-/
namespace Go.GB.C11
open Go.GB
set_option linter.unusedSimpArgs false
set_option linter.unusedVariables false
set_option maxRecDepth 100000
set_option maxHeartbeats 2000000
variable {P : Program}

theorem rSub_step (H : Pr P) (ds : List Def) (hD : DocOk ds) (k : Nat) (a b : Ref) (ha : a.Ok) (hb : b.Ok)
    (hrec : ∀ x y : Ref, x.Ok → y.Ok → x.wraps.length + y.wraps.length < a.wraps.length + b.wraps.length → SubC P 53 ds k x y) : SubC P 53 ds (k + 1) a b := by
  unfold SubC
  refine FnOk.run H.i53 H.mixed rfl rfl ?_
  refine fR rfl ?_
  refine Mid.call (rNn_ok H b hb) rfl rfl rfl rfl ?_
  refine fM rfl ?_
  refine Run.cond rfl rfl (fun h1 => ?_) (fun h1 => ?_)
  · have h1' : nnF b.wraps = true := h1
    have e : subW (subB ds a.name b.name) (k + 1) a.wraps b.wraps = (nnF a.wraps && subW (subB ds a.name b.name) k (nullF a.wraps) (nullF b.wraps)) := by simp only [subW]; rw [if_pos h1']
    have hc := hrec ⟨a.name, nullF a.wraps⟩ ⟨b.name, nullF b.wraps⟩ (nullOk ha) (nullOk hb) (by
      have := nullF_le a.wraps
      have h2 := nullF_nn h1'
      cases hw : b.wraps with
      | nil => rw [hw] at h1'; cases h1'
      | cons c r => rw [hw] at h2; simp only [h2]; simp; omega)
    unfold SubC at hc
    refine fR rfl ?_
    refine Mid.call (rNn_ok H a ha) rfl rfl rfl rfl ?_
    refine fM rfl ?_
    refine caG rfl rfl (fun hg => ⟨_, rfl, rNullable_ok H a ha, rfl⟩) rfl rfl ?_
    refine fM rfl ?_
    refine caG rfl rfl (fun hg => ⟨_, rfl, rNullable_ok H b hb, rfl⟩) rfl rfl ?_
    skip
    refine caG rfl rfl (fun hg => ⟨_, rfl, hc, rfl⟩) rfl rfl ?_
    refine fM rfl ?_
    refine Run.fin rfl (EndOk.go ?_); exact .t (by rw [e])
  · have h1' : ¬ nnF b.wraps = true := by rw [show nnF b.wraps = false from h1]; simp
    refine fR rfl ?_
    refine Mid.call (rNn_ok H a ha) rfl rfl rfl rfl ?_
    refine fM rfl ?_
    refine Run.cond rfl rfl (fun h2 => ?_) (fun h2 => ?_)
    · have h2' : nnF a.wraps = true := h2
      have e : subW (subB ds a.name b.name) (k + 1) a.wraps b.wraps = subW (subB ds a.name b.name) k (nullF a.wraps) b.wraps := by simp only [subW]; rw [if_neg h1', if_pos h2']
      have hc := hrec ⟨a.name, nullF a.wraps⟩ b (nullOk ha) hb (by
        have h2 := nullF_nn h2'
        cases hw : a.wraps with
        | nil => rw [hw] at h2'; cases h2'
        | cons c r => rw [hw] at h2; simp only [h2]; simp)
      unfold SubC at hc
      refine fR rfl ?_
      refine Mid.call (rNullable_ok H a ha) rfl rfl rfl rfl ?_
      refine fM rfl ?_
      refine Mid.call (hc) rfl rfl rfl rfl ?_
      refine fM rfl ?_
      refine Run.fin rfl (EndOk.go ?_); exact .t (by rw [e])
    · have h2' : ¬ nnF a.wraps = true := by rw [show nnF a.wraps = false from h2]; simp
      have e : subW (subB ds a.name b.name) (k + 1) a.wraps b.wraps = if (lstF a.wraps || lstF b.wraps) = true then lstF a.wraps && lstF b.wraps && subW (subB ds a.name b.name) k (nullF a.wraps).tail (nullF b.wraps).tail else subB ds a.name b.name := by simp only [subW]; rw [if_neg h1', if_neg h2']
      refine fR rfl ?_
      cases hla : lstF a.wraps with
      | true =>
        refine Mid.call (rInnerT_ok H a ha hla) rfl rfl rfl rfl ?_
        refine fM rfl ?_
        cases hlb : lstF b.wraps with
        | true =>
          have hc := hrec ⟨a.name, (nullF a.wraps).tail⟩ ⟨b.name, (nullF b.wraps).tail⟩ (tailOk ha) (tailOk hb) (by
            have h3 := nullF_le a.wraps
            have h4 := nullF_le b.wraps
            obtain ⟨r, hr⟩ := lst_cons hla
            rw [hr] at h3
            simp only [List.length_tail, hr]
            simp at h3 ⊢; omega)
          unfold SubC at hc
          rw [hla, hlb] at e
          refine Mid.call (rInnerT_ok H b hb hlb) rfl rfl rfl rfl ?_
          refine fM rfl ?_
          refine Run.condT rfl rfl rfl ?_
          refine fR rfl ?_
          refine Mid.call (hc) rfl rfl rfl rfl ?_
          refine fM rfl ?_
          refine Run.fin rfl (EndOk.go ?_); exact .t (by rw [e]; rfl)
        | false =>
          rw [hla, hlb] at e
          refine Mid.call (rInnerF_ok H b hb hlb) rfl rfl rfl rfl ?_
          refine fM rfl ?_
          refine Run.condF rfl rfl rfl ?_
          refine fR rfl ?_
          refine Mid.grdF rfl rfl rfl rfl rfl ?_
          refine fM rfl ?_
          refine Run.fin rfl (EndOk.go ?_); exact .t (by rw [e]; rfl)
      | false =>
        refine Mid.call (rInnerF_ok H a ha hla) rfl rfl rfl rfl ?_
        refine fM rfl ?_
        cases hlb : lstF b.wraps with
        | true =>
          rw [hla, hlb] at e
          refine Mid.call (rInnerT_ok H b hb hlb) rfl rfl rfl rfl ?_
          refine fM rfl ?_
          refine Run.condF rfl rfl rfl ?_
          refine fR rfl ?_
          refine Mid.grdF rfl rfl rfl rfl rfl ?_
          refine fM rfl ?_
          refine Run.fin rfl (EndOk.go ?_); exact .t (by rw [e]; rfl)
        | false =>
          rw [hla, hlb] at e
          refine Mid.call (rInnerF_ok H b hb hlb) rfl rfl rfl rfl ?_
          refine fM rfl ?_
          refine Run.condF rfl rfl rfl ?_
          refine fR rfl ?_
          refine caG rfl rfl (fun hg => ⟨_, rfl, rIs_ok H ds hD a.name b.name, rfl⟩) rfl rfl ?_
          refine fM rfl ?_
          refine Run.fin rfl (EndOk.go ?_); exact .t (by rw [e]; rfl)
theorem rSub_ok (H : Pr P) (ds : List Def) (hD : DocOk ds) : ∀ (k : Nat) (a b : Ref), a.wraps.length + b.wraps.length < k → a.Ok → b.Ok → SubC P 53 ds k a b
  | 0, a, b, h, _, _ => by omega
  | k + 1, a, b, h, ha, hb => rSub_step H ds hD k a b ha hb fun x y hx hy hlt => rSub_ok H ds hD k x y (by omega) hx hy
end Go.GB.C11

/-
  D11H: contracts of chapter 11's functions: Overlap, lists that are compared, names.
-/
namespace Go.GB.C11
open Go.GB
set_option linter.unusedSimpArgs false
set_option linter.unusedVariables false
set_option maxRecDepth 100000
set_option maxHeartbeats 2000000
variable {P : Program}

theorem in1_ok (H : Pr P) (L : List Str) (hL : L.length ≤ 140737488355328) (x : Str) : FnOk P 93 [.t (.str x), .ptr 0 0] ⟨[(0, .cells [.t (.lst (L.map sE))])], 1⟩ { v := .t (.bool (decide (x ∈ L))), rd := true } := by
  refine FnOk.run H.i93 H.mixed rfl rfl ?_
  refine fR rfl ?_
  refine Mid.call (contains_ok H L hL x) rfl rfl rfl rfl ?_
  refine fM rfl ?_
  refine Run.fin rfl (EndOk.sameX rfl rfl rfl (by first | exact rfl | exact nSto_bd | exact tSto_bd) (.t (rfl)))
def idxS (p : Str → Bool) : Int → List Str → Int
  | _, [] => -1
  | i, b :: l => if p b = true then i else idxS p (i + 1) l
theorem idxS_ge (p : Str → Bool) : ∀ (l : List Str) (i : Int), 0 ≤ i → decide (idxS p i l ≥ 0) = l.any p
  | [], i, h => by simp [idxS]
  | b :: l, i, h => by
    have ih := idxS_ge p l (i + 1) (by omega)
    by_cases hp : p b = true
    · simp [idxS, hp, h]
    · have e : idxS p i (b :: l) = idxS p (i + 1) l := by simp only [idxS]; rw [if_neg hp]
      rw [e, ih]; simp [hp]
theorem indexFuncO_ok (H : Pr P) (L : List Str) (hL : L.length ≤ 140737488355328) (l : List Str) (hl : l.length ≤ 140737488355328) : FnOk P 140 [.t (.lst (l.map sE)), .fn 93 [(0, 0)]] ⟨[(0, .cells [.t (.lst (L.map sE))])], 1⟩ { v := .t (.int .i64 (idxS (fun x => decide (x ∈ L)) 0 l)), rd := true } := by
  refine FnOk.run H.i140 H.mixed rfl rfl ?_
  refine fR rfl ?_
  refine lM rfl rfl rfl ?_
  refine fM rfl ?_
  refine rList l (fun i (_ : Unit) => { env := [(0, .t (.lst (l.map sE))), (1, .fn 93 [(0, 0)]), (7, .t (.int .i64 l.length)), (8, .t (.int .i64 i))], s := ⟨[(0, .cells [.t (.lst (L.map sE))])], 1⟩ }) (fun r i _ => idxS (fun x => decide (x ∈ L)) 0 l = idxS (fun x => decide (x ∈ L)) i r) 1 () rfl rfl rfl rfl rfl ?_ ?_
  · intro _ hinv
    refine fR rfl ?_
    refine Run.condF rfl rfl (by simp) ?_
    refine fR rfl ?_
    refine Run.fin rfl (EndOk.sameX rfl rfl rfl (by first | exact rfl | exact nSto_bd | exact tSto_bd) (.t ((by rw [hinv]; rfl))))
  · intro i x r _ h1 hi hd hinv ih
    refine fR rfl ?_
    refine Run.condT rfl rfl (by simp; omega) ?_
    refine fR rfl ?_
    refine Mid.elemMap rfl rfl rfl h1 rfl rfl ?_
    refine fM rfl ?_
    refine Mid.callvS rfl (in1_ok H L hL x) rfl rfl rfl rfl ?_
    refine fM rfl ?_
    refine Run.cond rfl rfl (fun hc => ?_) (fun hc => ?_)
    · refine fR rfl ?_
      refine Run.fin rfl (EndOk.sameX rfl rfl rfl (by first | exact rfl | exact nSto_bd | exact tSto_bd) (.t ((by rw [hinv]; simp only [idxS]; rw [if_pos hc]))))
    · refine fR rfl ?_
      refine aL rfl rfl rfl rfl rfl ?_
      refine fM rfl ?_
      have h' : ¬ decide (x ∈ L) = true := by rw [hc]; simp
      exact rWeak 1 rfl (ih () (by rw [hinv]; simp only [idxS]; rw [if_neg h']; rfl)) rfl rfl rfl
theorem containsFuncO_ok (H : Pr P) (L : List Str) (hL : L.length ≤ 140737488355328) (l : List Str) (hl : l.length ≤ 140737488355328) : FnOk P 92 [.t (.lst (l.map sE)), .fn 93 [(0, 0)]] ⟨[(0, .cells [.t (.lst (L.map sE))])], 1⟩ { v := .t (.bool (l.any (fun x => decide (x ∈ L)))), rd := true } := by
  refine FnOk.run H.i92 H.mixed rfl rfl ?_
  refine fR rfl ?_
  refine Mid.callS (indexFuncO_ok H L hL l hl) rfl rfl (by first | exact rfl | exact nSto_bd | exact tSto_bd) rfl ?_
  refine fM rfl ?_
  refine Run.fin rfl (EndOk.sameX rfl rfl rfl (by first | exact rfl | exact nSto_bd | exact tSto_bd) (.t ((by rw [← idxS_ge (fun x => decide (x ∈ L)) l 0 (by omega)]))))
def ovF (ds : List Def) (a b : Str) : Bool := (posF ds a).any fun x => decide (x ∈ posF ds b)
theorem ovF_comm (ds : List Def) (a b : Str) : ovF ds a b = ovF ds b a := by
  unfold ovF
  rw [Bool.eq_iff_iff, List.any_eq_true, List.any_eq_true]
  constructor
  · rintro ⟨x, h1, h2⟩; exact ⟨x, by simpa using h2, by simpa using h1⟩
  · rintro ⟨x, h1, h2⟩; exact ⟨x, by simpa using h2, by simpa using h1⟩
theorem overlap_ok (H : Pr P) (ds : List Def) (hD : DocOk ds) (a b : Str) : FnOk P 49 [docV ds, .t (.str a), .t (.str b)] ⟨[], 0⟩ { v := .t (.bool (ovF ds a b)) } := by
  have hla := posF_len ds a
  have hlb := posF_len ds b
  have := hD.l
  refine FnOk.run H.i49 H.mixed rfl rfl ?_
  refine fR rfl ?_
  refine Mid.call (possible_ok H ds hD b) rfl rfl rfl rfl ?_
  refine fM rfl ?_
  refine Mid.call (possible_ok H ds hD a) rfl rfl rfl rfl ?_
  refine fM rfl ?_
  refine Mid.callRd [1] (containsFuncO_ok H (posF ds b) (by omega) (posF ds a) (by omega)) rfl rfl rfl rfl (by simp [stoBd]; simp [AObj.bd, V.bds, V.bd]) (by repeat' (first | exact trivial | exact rfl | refine And.intro ?_ ?_ | exact (congrArg some (AObj.ren_mE _ _ _ _ _ _)).symm | exact (congrArg some (AObj.ren_cE _ _ _)).symm)) rfl ?_
  refine fM rfl ?_
  refine Run.fin rfl (EndOk.go ?_); exact .t rfl
theorem rOverlap_ok (H : Pr P) (ds : List Def) (hD : DocOk ds) (a b : Str) : FnOk P 50 [docV ds, .t (.str a), .t (.str b)] ⟨[], 0⟩ { v := .t (.bool (ovF ds a b)) } := by
  have hla := posF_len ds a
  have := hD.l
  refine FnOk.run H.i50 H.mixed rfl rfl ?_
  refine fR rfl ?_
  refine Mid.call (rPossible_ok H ds hD a) rfl rfl rfl rfl ?_
  refine fM rfl ?_
  refine rList (posF ds a) (fun i (_ : Unit) => { env := [(2, .t (.str b)), (3, .ptr 0 0), (7, .t (.lst ((posF ds a).map sE))), (8, .t (.int .i64 i))], s := ⟨[(0, .cells [.t (.lst (ds.map Def.enc))])], 1⟩ }) (fun r i _ => ovF ds a b = r.any (fun x => decide (x ∈ posF ds b))) 1 () rfl rfl rfl rfl rfl ?_ ?_
  · intro _ hinv
    refine fR rfl ?_
    refine lM rfl rfl rfl ?_
    refine fM rfl ?_
    refine Run.condF rfl rfl (by simp) ?_
    refine fR rfl ?_
    refine Run.fin rfl (EndOk.go ?_); exact .t (by rw [hinv]; rfl)
  · intro i x r _ h1 hi hd hinv ih
    refine fR rfl ?_
    refine lM rfl rfl rfl ?_
    refine fM rfl ?_
    refine Run.condT rfl rfl (by simp; omega) ?_
    refine fR rfl ?_
    refine Mid.elemMap rfl rfl rfl h1 rfl rfl ?_
    refine fM rfl ?_
    refine Mid.call (rIs_ok H ds hD x b) rfl rfl rfl rfl ?_
    refine fM rfl ?_
    refine Run.cond rfl rfl (fun hc => ?_) (fun hc => ?_)
    · refine fR rfl ?_
      have hc' : decide (x ∈ posF ds b) = true := hc
      refine Run.fin rfl (EndOk.go ?_); exact .t (by rw [hinv, List.any_cons, hc']; rfl)
    · refine fR rfl ?_
      refine aL rfl rfl rfl rfl rfl ?_
      refine fM rfl ?_
      have hc' : decide (x ∈ posF ds b) = false := hc
      exact rWeak 1 rfl (ih () (by rw [hinv, List.any_cons, hc']; rfl)) rfl rfl rfl

/- lists that are compared -/
theorem drop_at {α : Type} {l : List α} {i : Nat} {y : α} (h : l[i]? = some y) : l.drop i = y :: l.drop (i + 1) := by
  obtain ⟨hi, hy⟩ := List.getElem?_eq_some_iff.1 h
  rw [List.drop_eq_getElem_cons hi, hy]
theorem at_of_len {α β : Type} {a : List α} {b : List β} (h : a.length = b.length) {i : Nat} (hi : i < a.length) : ∃ y, b[i]? = some y := ⟨b[i]'(by omega), by simp [show i < b.length by omega]⟩
theorem strings_ok (H : Pr P) (a b : List Str) (ha : a.length ≤ 140737488355328) (hb : b.length ≤ 140737488355328) : FnOk P 45 [.t (.lst (a.map sE)), .t (.lst (b.map sE))] ⟨[], 0⟩ { v := .t (.bool (decide (a = b))) } := by
  refine FnOk.run H.i45 H.mixed rfl rfl ?_
  refine fR rfl ?_
  refine lM rfl rfl rfl ?_
  refine fM rfl ?_
  refine lM rfl rfl rfl ?_
  refine fM rfl ?_
  refine Run.cond rfl rfl (fun h => ?_) (fun h => ?_)
  · have h' : ¬ a.length = b.length := by simp at h; omega
    refine fR rfl ?_
    refine Run.fin rfl (EndOk.go ?_); exact .t (by simp; intro e; exact h' (by rw [e]))
  · have h' : a.length = b.length := by simp at h; omega
    refine fR rfl ?_
    refine rList a (fun i (_ : Unit) => { env := [(0, .t (.lst (a.map sE))), (1, .t (.lst (b.map sE))), (5, .t (.int .i64 i))], s := ⟨[], 0⟩ }) (fun r i _ => decide (a = b) = decide (r = b.drop i)) 0 () rfl (by simp) rfl rfl rfl ?_ ?_
    · intro _ hinv
      refine fR rfl ?_
      refine lM rfl rfl rfl ?_
      refine fM rfl ?_
      refine Run.condF rfl rfl (by simp) ?_
      refine fR rfl ?_
      refine Run.fin rfl (EndOk.go ?_); exact .t (by rw [hinv, h']; simp)
    · intro i x r _ h1 hi hd hinv ih
      obtain ⟨y, hy⟩ := at_of_len h' hi
      have hinv' : decide (a = b) = decide (x :: r = b.drop i) := hinv
      rw [drop_at hy] at hinv'
      refine fR rfl ?_
      refine lM rfl rfl rfl ?_
      refine fM rfl ?_
      refine Run.condT rfl rfl (by simp; omega) ?_
      refine fR rfl ?_
      refine Mid.elemMap rfl rfl rfl h1 rfl rfl ?_
      refine fM rfl ?_
      refine Mid.elemMap rfl rfl rfl hy rfl rfl ?_
      refine fM rfl ?_
      refine Run.cond rfl rfl (fun hc => ?_) (fun hc => ?_)
      · have hc' : ¬ x = y := by simpa using hc
        refine fR rfl ?_
        refine Run.fin rfl (EndOk.go ?_); exact .t (by rw [hinv']; simp [hc'])
      · have hc' : x = y := by simpa using hc
        refine fR rfl ?_
        refine aL rfl rfl rfl rfl rfl ?_
        refine fM rfl ?_
        exact rWeak 0 rfl (ih () (by rw [hinv']; simp [hc'])) rfl rfl rfl
theorem same_ok (H : Pr P) (a b : List Int) (ha : a.length ≤ 140737488355328) (hb : b.length ≤ 140737488355328) : FnOk P 147 [.t (.lst (a.map nE)), .t (.lst (b.map nE))] ⟨[], 0⟩ { v := .t (.bool (decide (a = b))) } := by
  refine FnOk.run H.i147 H.mixed rfl rfl ?_
  refine fR rfl ?_
  refine lM rfl rfl rfl ?_
  refine fM rfl ?_
  refine lM rfl rfl rfl ?_
  refine fM rfl ?_
  refine Run.cond rfl rfl (fun h => ?_) (fun h => ?_)
  · have h' : ¬ a.length = b.length := by simp at h; omega
    refine fR rfl ?_
    refine Run.fin rfl (EndOk.go ?_); exact .t (by simp; intro e; exact h' (by rw [e]))
  · have h' : a.length = b.length := by simp at h; omega
    refine fR rfl ?_
    refine rList a (fun i (_ : Unit) => { env := [(0, .t (.lst (a.map nE))), (1, .t (.lst (b.map nE))), (5, .t (.int .i64 i))], s := ⟨[], 0⟩ }) (fun r i _ => decide (a = b) = decide (r = b.drop i)) 0 () rfl (by simp) rfl rfl rfl ?_ ?_
    · intro _ hinv
      refine fR rfl ?_
      refine lM rfl rfl rfl ?_
      refine fM rfl ?_
      refine Run.condF rfl rfl (by simp) ?_
      refine fR rfl ?_
      refine Run.fin rfl (EndOk.go ?_); exact .t (by rw [hinv, h']; simp)
    · intro i x r _ h1 hi hd hinv ih
      obtain ⟨y, hy⟩ := at_of_len h' hi
      have hinv' : decide (a = b) = decide (x :: r = b.drop i) := hinv
      rw [drop_at hy] at hinv'
      refine fR rfl ?_
      refine lM rfl rfl rfl ?_
      refine fM rfl ?_
      refine Run.condT rfl rfl (by simp; omega) ?_
      refine fR rfl ?_
      refine Mid.elemMap rfl rfl rfl h1 rfl rfl ?_
      refine fM rfl ?_
      refine Mid.elemMap rfl rfl rfl hy rfl rfl ?_
      refine fM rfl ?_
      refine Run.cond rfl rfl (fun hc => ?_) (fun hc => ?_)
      · have hc' : ¬ x = y := by simpa using hc
        refine fR rfl ?_
        refine Run.fin rfl (EndOk.go ?_); exact .t (by rw [hinv']; simp [hc'])
      · have hc' : x = y := by simpa using hc
        refine fR rfl ?_
        refine aL rfl rfl rfl rfl rfl ?_
        refine fM rfl ?_
        exact rWeak 0 rfl (ih () (by rw [hinv']; simp [hc'])) rfl rfl rfl
theorem equalI_ok (H : Pr P) (a b : List Int) (ha : a.length ≤ 140737488355328) (hb : b.length ≤ 140737488355328) : FnOk P 186 [.t (.lst (a.map nE)), .t (.lst (b.map nE))] ⟨[], 0⟩ { v := .t (.bool (decide (a = b))) } := by
  refine FnOk.run H.i186 H.mixed rfl rfl ?_
  refine fR rfl ?_
  refine lM rfl rfl rfl ?_
  refine fM rfl ?_
  refine lM rfl rfl rfl ?_
  refine fM rfl ?_
  refine Run.cond rfl rfl (fun h => ?_) (fun h => ?_)
  · have h' : ¬ a.length = b.length := by simp at h; omega
    refine fR rfl ?_
    refine Run.fin rfl (EndOk.go ?_); exact .t (by simp; intro e; exact h' (by rw [e]))
  · have h' : a.length = b.length := by simp at h; omega
    refine fR rfl ?_
    refine lM rfl rfl rfl ?_
    refine fM rfl ?_
    refine rList a (fun i (_ : Unit) => { env := [(0, .t (.lst (a.map nE))), (1, .t (.lst (b.map nE))), (12, .t (.int .i64 a.length)), (13, .t (.int .i64 i))], s := ⟨[], 0⟩ }) (fun r i _ => decide (a = b) = decide (r = b.drop i)) 0 () rfl (by simp) rfl rfl rfl ?_ ?_
    · intro _ hinv
      refine fR rfl ?_
      refine Run.condF rfl rfl (by simp) ?_
      refine fR rfl ?_
      refine Run.fin rfl (EndOk.go ?_); exact .t (by rw [hinv, h']; simp)
    · intro i x r _ h1 hi hd hinv ih
      obtain ⟨y, hy⟩ := at_of_len h' hi
      have hinv' : decide (a = b) = decide (x :: r = b.drop i) := hinv
      rw [drop_at hy] at hinv'
      refine fR rfl ?_
      refine Run.condT rfl rfl (by simp; omega) ?_
      refine fR rfl ?_
      refine Mid.elemMap rfl rfl rfl h1 rfl rfl ?_
      refine fM rfl ?_
      refine Mid.elemMap rfl rfl rfl hy rfl rfl ?_
      refine fM rfl ?_
      refine Run.cond rfl rfl (fun hc => ?_) (fun hc => ?_)
      · have hc' : ¬ x = y := by simpa using hc
        refine fR rfl ?_
        refine Run.fin rfl (EndOk.go ?_); exact .t (by rw [hinv']; simp [hc'])
      · have hc' : x = y := by simpa using hc
        refine fR rfl ?_
        refine aL rfl rfl rfl rfl rfl ?_
        refine fM rfl ?_
        exact rWeak 0 rfl (ih () (by rw [hinv']; simp [hc'])) rfl rfl rfl
structure Fault where
  err : Int
  at_ : Str
instance : DecidableEq Fault := fun a b => decidable_of_iff (a.err = b.err ∧ a.at_ = b.at_) (by cases a; cases b; simp)
def Fault.enc (f : Fault) : List T := [.int .i64 f.err, .str f.at_]
theorem faults_ok (H : Pr P) (a b : List Fault) (ha : a.length ≤ 140737488355328) (hb : b.length ≤ 140737488355328) : FnOk P 40 [.t (.lst (a.map Fault.enc)), .t (.lst (b.map Fault.enc))] ⟨[], 0⟩ { v := .t (.bool (decide (a = b))) } := by
  refine FnOk.run H.i40 H.mixed rfl rfl ?_
  refine fR rfl ?_
  refine lM rfl rfl rfl ?_
  refine fM rfl ?_
  refine lM rfl rfl rfl ?_
  refine fM rfl ?_
  refine Run.cond rfl rfl (fun h => ?_) (fun h => ?_)
  · have h' : ¬ a.length = b.length := by simp at h; omega
    refine fR rfl ?_
    refine Run.fin rfl (EndOk.go ?_); exact .t (by simp; intro e; exact h' (by rw [e]))
  · have h' : a.length = b.length := by simp at h; omega
    refine fR rfl ?_
    refine rList a (fun i (_ : Unit) => { env := [(0, .t (.lst (a.map Fault.enc))), (1, .t (.lst (b.map Fault.enc))), (5, .t (.int .i64 i))], s := ⟨[], 0⟩ }) (fun r i _ => decide (a = b) = decide (r = b.drop i)) 0 () rfl (by simp) rfl rfl rfl ?_ ?_
    · intro _ hinv
      refine fR rfl ?_
      refine lM rfl rfl rfl ?_
      refine fM rfl ?_
      refine Run.condF rfl rfl (by simp) ?_
      refine fR rfl ?_
      refine Run.fin rfl (EndOk.go ?_); exact .t (by rw [hinv, h']; simp)
    · intro i x r _ h1 hi hd hinv ih
      obtain ⟨y, hy⟩ := at_of_len h' hi
      have hinv' : decide (a = b) = decide (x :: r = b.drop i) := hinv
      rw [drop_at hy] at hinv'
      refine fR rfl ?_
      refine lM rfl rfl rfl ?_
      refine fM rfl ?_
      refine Run.condT rfl rfl (by simp; omega) ?_
      refine fR rfl ?_
      refine Mid.elemMap rfl rfl rfl h1 rfl rfl ?_
      refine fM rfl ?_
      refine Mid.elemMap rfl rfl rfl hy rfl rfl ?_
      refine fM rfl ?_
      refine p0 rfl ?_
      refine fM rfl ?_
      refine Run.cond rfl rfl (fun hc => ?_) (fun hc => ?_)
      · have hc' : ¬ x = y := by
          rintro rfl
          simp [keyEq, T.eqb] at hc
        refine fR rfl ?_
        refine Run.fin rfl (EndOk.go ?_); exact .t (by rw [hinv']; simp [hc'])
      · have hc' : x = y := by
          simp [keyEq, T.eqb] at hc
          cases x; cases y; simp at hc ⊢; exact hc
        refine fR rfl ?_
        refine aL rfl rfl rfl rfl rfl ?_
        refine fM rfl ?_
        exact rWeak 0 rfl (ih () (by rw [hinv']; simp [hc'])) rfl rfl rfl
end Go.GB.C11

/-
  D11I: contracts of chapter 11's functions: Large, right types, Fits.
-/
namespace Go.GB.C11
open Go.GB
set_option linter.unusedSimpArgs false
set_option linter.unusedVariables false
set_option maxRecDepth 100000
set_option maxHeartbeats 2000000
variable {P : Program}

def lgFld (n : Int) (f : Field) : Int := IntKind.i64.wrap (n + IntKind.i64.wrap ((f.args.length : Nat) + (f.dirs.length : Nat)))
def lgDef (n : Int) (d : Def) : Int := d.fields.foldl lgFld (IntKind.i64.wrap (n + IntKind.i64.wrap (IntKind.i64.wrap (IntKind.i64.wrap (IntKind.i64.wrap (IntKind.i64.wrap (1 + (d.fields.length : Nat)) + (d.members.length : Nat)) + (d.inputs.length : Nat)) + (d.dirs.length : Nat)) + (d.implements.length : Nat))))
def largeF (ds : List Def) : Bool := decide ((ds.length : Int) > 70) || decide (ds.foldl lgDef 0 > 1000)
theorem large_ok (H : Pr P) (ds : List Def) (hD : DocOk ds) : FnOk P 29 [docV ds] ⟨[], 0⟩ { v := .t (.bool (largeF ds)) } := by
  have hl := hD.l
  refine FnOk.run H.i29 H.mixed rfl rfl ?_
  refine fR rfl ?_
  refine lM rfl rfl rfl ?_
  refine fM rfl ?_
  refine Run.cond rfl rfl (fun h => ?_) (fun h => ?_)
  · refine fR rfl ?_
    refine Run.fin rfl (EndOk.go ?_); exact .t (by unfold largeF; rw [show decide ((ds.length : Int) > 70) = true from h]; rfl)
  · have h' : decide ((ds.length : Int) > 70) = false := h
    refine fR rfl ?_
    refine rList ds (fun i (n : Int) => { env := [(1, .ptr 0 0), (3, .t (.int .i64 n)), (4, .t (.int .i64 i))], s := ⟨[(0, .cells [.t (.lst (ds.map Def.enc))])], 1⟩ }) (fun r i n => ds.foldl lgDef 0 = r.foldl lgDef n) 1 0 rfl rfl rfl rfl rfl ?_ ?_
    · rintro n hinv
      refine fR rfl ?_
      refine lM rfl rfl rfl ?_
      refine fM rfl ?_
      refine Run.condF rfl rfl (by simp) ?_
      refine fR rfl ?_
      refine Run.fin rfl (EndOk.go ?_); exact .t (by unfold largeF; rw [h', hinv]; rfl)
    · rintro i x r n h1 hi hd hinv ih
      have hinv' : ds.foldl lgDef 0 = r.foldl lgDef (lgDef n x) := hinv
      refine fR rfl ?_
      refine lM rfl rfl rfl ?_
      refine fM rfl ?_
      refine Run.condT rfl rfl (by simp; omega) ?_
      refine fR rfl ?_
      refine Mid.elemMap rfl rfl rfl h1 rfl rfl ?_
      refine fM rfl ?_
      refine lM rfl rfl rfl ?_
      refine p0 rfl ?_
      refine fM rfl ?_
      refine lM rfl rfl rfl ?_
      refine p0 rfl ?_
      refine fM rfl ?_
      refine lM rfl rfl rfl ?_
      refine p0 rfl ?_
      refine fM rfl ?_
      refine lM rfl rfl rfl ?_
      refine p0 rfl ?_
      refine fM rfl ?_
      refine lM rfl rfl rfl ?_
      refine p0 rfl ?_
      refine p0 rfl ?_
      refine fM rfl ?_
      have hfl := (hD.d x (List.mem_of_getElem? h1)).fl
      generalize hn1 : IntKind.i64.wrap (n + IntKind.i64.wrap (IntKind.i64.wrap (IntKind.i64.wrap (IntKind.i64.wrap (IntKind.i64.wrap (1 + (x.fields.length : Nat)) + (x.members.length : Nat)) + (x.inputs.length : Nat)) + (x.dirs.length : Nat)) + (x.implements.length : Nat))) = n1
      have en : lgDef n x = x.fields.foldl lgFld n1 := by rw [← hn1]; rfl
      rw [en] at hinv'
      refine rList x.fields (fun j (n : Int) => { env := [(1, .ptr 0 0), (3, .t (.int .i64 n)), (4, .t (.int .i64 i)), (5, .ptr 1 0), (6, .t (.int .i64 j))], s := ⟨[(0, .cells [.t (.lst (ds.map Def.enc))]), (1, .cells [.t (.int .i64 x.kind), .t (.str x.name), .t (.lst (x.implements.map sE)), .t (.lst (x.dirs.map Dir.enc)), .t (.lst (x.fields.map Field.enc)), .t (.lst (x.members.map Member.enc)), .t (.lst (x.inputs.map Input.enc))])], 2⟩ }) (fun r2 j n => ds.foldl lgDef 0 = r.foldl lgDef (r2.foldl lgFld n)) 2 n1 rfl (by rw [hinv']) rfl rfl rfl ?_ ?_
      · rintro n2 hinv2
        refine fR rfl ?_
        refine lM rfl rfl rfl ?_
        refine fM rfl ?_
        refine Run.condF rfl rfl (by simp) ?_
        refine fR rfl ?_
        refine aL rfl rfl rfl rfl rfl ?_
        refine fM rfl ?_
        exact rWeak 1 rfl (ih n2 (by rw [hinv2]; rfl)) rfl rfl rfl
      · rintro j f r2 n2 h2 hj hjd hinv2 ih2
        refine fR rfl ?_
        refine lM rfl rfl rfl ?_
        refine fM rfl ?_
        refine Run.condT rfl rfl (by simp; omega) ?_
        refine fR rfl ?_
        refine Mid.elemMap rfl rfl rfl h2 rfl rfl ?_
        refine fM rfl ?_
        refine lM rfl rfl rfl ?_
        refine fM rfl ?_
        refine Mid.elemMap rfl rfl rfl h2 rfl rfl ?_
        refine fM rfl ?_
        refine lM rfl rfl rfl ?_
        refine p0 rfl ?_
        refine p0 rfl ?_
        refine fM rfl ?_
        refine aL rfl rfl rfl rfl rfl ?_
        refine fM rfl ?_
        exact rWeak 2 rfl (ih2 (lgFld n2 f) (by rw [hinv2]; rfl)) rfl rfl rfl

def scalF (n : Str) : Bool := n == [73, 110, 116] || n == [83, 116, 114, 105, 110, 103] || n == [66, 111, 111, 108, 101, 97, 110] || n == [73, 68]
theorem scalar_ok (H : Pr P) (n : Str) : FnOk P 136 [.t (.str n)] ⟨[], 0⟩ { v := .t (.bool (scalF n)) } := by
  refine FnOk.run H.i136 H.mixed rfl rfl ?_
  refine fR rfl ?_
  refine Run.fin rfl (EndOk.go ?_); exact .t (by simp [scalF])
theorem rScalar_ok (H : Pr P) (n : Str) : FnOk P 85 [.t (.str n)] ⟨[], 0⟩ { v := .t (.bool (scalF n)) } := by
  refine FnOk.run H.i85 H.mixed rfl rfl ?_
  refine fR rfl ?_
  refine Run.fin rfl (EndOk.go ?_); exact .t (by simp [scalF])

/- names -/
def letF (c : Int) : Bool := (decide (c ≥ 65) && decide (c ≤ 90)) || (decide (c ≥ 97) && decide (c ≤ 122)) || c == 95
def digF (c : Int) : Bool := decide (c ≥ 48) && decide (c ≤ 57)
theorem letter_ok (H : Pr P) (c : Int) : FnOk P 141 [.t (.int .u8 c)] ⟨[], 0⟩ { v := .t (.bool (letF c)) } := by
  refine FnOk.run H.i141 H.mixed rfl rfl ?_
  refine fR rfl ?_
  refine Run.fin rfl (EndOk.go ?_); exact .t rfl
theorem digit_ok (H : Pr P) (c : Int) : FnOk P 142 [.t (.int .u8 c)] ⟨[], 0⟩ { v := .t (.bool (digF c)) } := by
  refine FnOk.run H.i142 H.mixed rfl rfl ?_
  refine fR rfl ?_
  refine Run.fin rfl (EndOk.go ?_); exact .t rfl
def nmOk (first : Bool) : List UInt8 → Bool
  | [] => true
  | c :: r => (letF c.toNat || (!first && digF c.toNat)) && nmOk false r
def nameF (s : Str) : Bool := decide (1 ≤ s.length ∧ s.length ≤ 64) && nmOk true s
theorem name_ok (H : Pr P) (s : Str) (hs : s.length ≤ 140737488355328) : FnOk P 94 [.t (.str s)] ⟨[], 0⟩ { v := .t (.bool (nameF s)) } := by
  refine FnOk.run H.i94 H.mixed rfl rfl ?_
  refine fR rfl ?_
  refine Run.cond rfl rfl (fun h => ?_) (fun h => ?_)
  · have h' : ¬ (1 ≤ s.length ∧ s.length ≤ 64) := by simp at h; omega
    refine fR rfl ?_
    refine Run.fin rfl (EndOk.go ?_); exact .t (by unfold nameF; rw [show decide (1 ≤ s.length ∧ s.length ≤ 64) = false from by simpa using h']; rfl)
  · have h' : 1 ≤ s.length ∧ s.length ≤ 64 := by simp at h; omega
    have e : nameF s = nmOk true s := by unfold nameF; rw [show decide (1 ≤ s.length ∧ s.length ≤ 64) = true from by simpa using h']; rfl
    refine fR rfl ?_
    refine rList s (fun i (_ : Unit) => { env := [(0, .t (.str s)), (3, .t (.int .i64 i))], s := ⟨[], 0⟩ }) (fun r i _ => nmOk true s = nmOk (i == 0) r) 0 () rfl rfl rfl rfl rfl ?_ ?_
    · intro _ hinv
      refine fR rfl ?_
      refine Run.condF rfl rfl (by simp) ?_
      refine fR rfl ?_
      refine Run.fin rfl (EndOk.go ?_); exact .t (by rw [e, hinv]; rfl)
    · intro i c r _ h1 hi hd hinv ih
      refine fR rfl ?_
      refine Run.condT rfl rfl (by simp; omega) ?_
      refine fR rfl ?_
      refine Mid.byte rfl rfl h1 rfl ?_
      skip
      refine Mid.call (letter_ok H c.toNat) rfl rfl rfl rfl ?_
      refine fM rfl ?_
      refine byG rfl rfl rfl h1 rfl ?_
      skip
      refine caG rfl rfl (fun hg => ⟨_, rfl, digit_ok H c.toNat, rfl⟩) rfl rfl ?_
      refine fM rfl ?_
      have hb : ((i : Int) == 0) = (i == 0) := by
        cases i with
        | zero => rfl
        | succ i => simp; omega
      have hb2 : (i + 1 == 0) = false := by simp
      refine Run.cond rfl rfl (fun hc => ?_) (fun hc => ?_)
      · have hc' : (letF c.toNat || (!(i == 0) && digF c.toNat)) = false := by
          rw [hb] at hc
          revert hc; cases letF c.toNat <;> cases (i == 0) <;> cases digF c.toNat <;> simp
        refine fR rfl ?_
        refine Run.fin rfl (EndOk.go ?_); exact .t (by rw [e, hinv]; simp only [nmOk]; rw [hc']; rfl)
      · have hc' : (letF c.toNat || (!(i == 0) && digF c.toNat)) = true := by
          rw [hb] at hc
          revert hc; cases letF c.toNat <;> cases (i == 0) <;> cases digF c.toNat <;> simp
        refine fR rfl ?_
        refine aL rfl rfl rfl rfl rfl ?_
        refine fM rfl ?_
        exact rWeak 0 rfl (ih () (by rw [hinv, hb2]; simp only [nmOk]; rw [hc']; rfl)) rfl rfl rfl

/- right types -/
def rgW (first nn : Bool) : List Int → Bool
  | [] => true
  | w :: r => !(w != 1 && w != 2) && !(!first && w == 1 && nn) && rgW false (w == 1) r
def rightF (t : Ref) : Bool := nameF t.name && decide (t.wraps.length ≤ 24) && rgW true false t.wraps
theorem right_ok (H : Pr P) (t : Ref) (ht : t.Ok) : FnOk P 51 [t.v] ⟨[], 0⟩ { v := .t (.bool (rightF t)) } := by
  have hl := ht.l
  have hn := ht.nm
  refine FnOk.run H.i51 H.mixed rfl rfl ?_
  refine fR rfl ?_
  refine Mid.call (name_ok H t.name hn) rfl rfl rfl rfl ?_
  refine fM rfl ?_
  refine lMG rfl rfl rfl rfl ?_
  refine fM rfl ?_
  refine Run.cond rfl rfl (fun h => ?_) (fun h => ?_)
  · refine fR rfl ?_
    refine Run.fin rfl (EndOk.go ?_); exact .t (by
      unfold rightF
      have : (nameF t.name && decide (t.wraps.length ≤ 24)) = false := by
        cases h1 : nameF t.name with
        | false => rfl
        | true => rw [h1] at h; simp at h; simp; omega
      rw [this]; rfl)
  · have h' : (nameF t.name && decide (t.wraps.length ≤ 24)) = true := by
      cases h1 : nameF t.name with
      | false => rw [h1] at h; simp at h
      | true => rw [h1] at h; simp at h; simp; omega
    have e : rightF t = rgW true false t.wraps := by unfold rightF; rw [h']; rfl
    refine fR rfl ?_
    refine rList t.wraps (fun i (_ : Unit) => { env := [(1, .ptr 0 0), (3, .t (.int .i64 i))], s := ⟨[(0, .cells [.t (.str t.name), .t (.lst (t.wraps.map nE))])], 1⟩ }) (fun r i _ => ∃ nn : Bool, (∀ j : Nat, i = j + 1 → ∃ w, t.wraps[j]? = some w ∧ nn = (w == 1)) ∧ rgW true false t.wraps = rgW (i == 0) nn r) 1 () rfl ⟨false, fun j h => by omega, rfl⟩ rfl rfl rfl ?_ ?_
    · rintro _ ⟨nn, _, hinv⟩
      refine fR rfl ?_
      refine lM rfl rfl rfl ?_
      refine fM rfl ?_
      refine Run.condF rfl rfl (by simp) ?_
      refine fR rfl ?_
      refine Run.fin rfl (EndOk.go ?_); exact .t (by rw [e, hinv]; rfl)
    · rintro i w r _ h1 hi hd ⟨nn, hnn, hinv⟩ ih
      refine fR rfl ?_
      refine lM rfl rfl rfl ?_
      refine fM rfl ?_
      refine Run.condT rfl rfl (by simp; omega) ?_
      refine fR rfl ?_
      refine Mid.elemMap rfl rfl rfl h1 rfl rfl ?_
      refine fM rfl ?_
      refine elG rfl rfl rfl rfl h1 rfl rfl ?_
      refine fM rfl ?_
      refine Run.cond rfl rfl (fun hc => ?_) (fun hc => ?_)
      · refine fR rfl ?_
        refine Run.fin rfl (EndOk.go ?_); exact .t (by rw [e, hinv]; simp only [rgW]; rw [show (w != 1 && w != 2) = true from hc]; rfl)
      · have hc' : (w != 1 && w != 2) = false := hc
        have hlast : ∀ j : Nat, i + 1 = j + 1 → ∃ w', t.wraps[j]? = some w' ∧ (w == 1) = (w' == 1) := fun j hj => by
          obtain rfl : j = i := by omega
          exact ⟨w, h1, rfl⟩
        have hb2 : (i + 1 == 0) = false := by simp
        cases i with
        | zero =>
          obtain ⟨nm, ws⟩ := t
          cases ws with
          | nil => simp at hi
          | cons w0 r0 =>
            simp at h1 hd
            subst h1; subst hd
            refine fR rfl ?_
            refine gr rfl ?_
            refine fM rfl ?_
            refine s64G rfl rfl rfl rfl ?_
            refine gr rfl ?_
            refine fM rfl ?_
            refine Run.condF rfl rfl rfl ?_
            refine fR rfl ?_
            refine aL rfl rfl rfl rfl rfl ?_
            refine fM rfl ?_
            exact rWeak 1 rfl (ih () ⟨w0 == 1, hlast, by rw [hinv, hb2]; simp only [rgW]; rw [hc']; rfl⟩) rfl rfl rfl
        | succ j =>
          obtain ⟨w', hw', rfl⟩ := hnn j rfl
          have ej : IntKind.i64.wrap (((j + 1 : Nat) : Int) - 1) = (j : Int) := by rw [wrap64 (by omega) (by omega)]; omega
          refine fR rfl ?_
          refine elG rfl rfl rfl rfl h1 rfl rfl ?_
          refine fM rfl ?_
          refine s64G rfl rfl rfl rfl ?_
          rw [show ((j + 1 : Nat) : Int) - 1 = (j : Int) from by omega]
          refine elG rfl rfl rfl rfl hw' rfl rfl ?_
          refine fM rfl ?_
          have hg : decide (((j + 1 : Nat) : Int) > 0) = true := decide_eq_true (by omega)
          have hb1 : (j + 1 == 0) = false := by simp
          refine Run.cond rfl rfl (fun hx => ?_) (fun hx => ?_)
          · refine fR rfl ?_
            refine Run.fin rfl (EndOk.go ?_); exact .t (by
              rw [hg] at hx
              have e3 : (w == 1 && w' == 1) = true := hx
              rw [e, hinv, hb1]; simp only [rgW, hc', Bool.not_false, Bool.true_and, e3]; rfl)
          · rw [hg] at hx
            refine fR rfl ?_
            refine aL rfl rfl rfl rfl rfl ?_
            refine fM rfl ?_
            exact rWeak 1 rfl (ih () ⟨w == 1, hlast, by
              have e3 : (w == 1 && w' == 1) = false := hx
              rw [hinv, hb1, hb2]; simp only [rgW, hc', Bool.not_false, Bool.true_and, e3]⟩) rfl rfl rfl

/- lists of lists, Fits -/
def loose : List Int → List Int
  | [] => []
  | w :: r => if (w != 1) = true then w :: loose r else loose r
theorem loose_le : ∀ l : List Int, (loose l).length ≤ l.length
  | [] => by simp [loose]
  | w :: r => by have := loose_le r; simp only [loose]; split <;> simp <;> omega
theorem lists_ok (H : Pr P) (t : Ref) (ht : t.Ok) : FnOk P 148 [t.v] ⟨[], 0⟩ { v := .t (.lst ((loose t.wraps).map nE)) } := by
  have hl := ht.l
  refine FnOk.run H.i148 H.mixed rfl rfl ?_
  refine fR rfl ?_
  refine rList t.wraps (fun i (B : List Int) => { env := [(1, .ptr 0 0), (3, .own 1 1 (B.map nE)), (4, .t (.int .i64 i))], s := ⟨[(0, .cells [.t (.str t.name), .t (.lst (t.wraps.map nE))]), (1, .arr B.length)], 2⟩ }) (fun r i B => B.length ≤ i ∧ loose t.wraps = B ++ loose r) 1 [] rfl ⟨by simp, by simp⟩ rfl rfl rfl ?_ ?_
  · rintro B ⟨_, hB⟩
    obtain rfl : B = loose t.wraps := by rw [hB]; simp [loose]
    refine fR rfl ?_
    refine lM rfl rfl rfl ?_
    refine fM rfl ?_
    refine Run.condF rfl rfl (by simp) ?_
    refine fR rfl ?_
    refine Run.fin rfl (EndOk.go ?_); exact .own rfl
  · rintro i w r B h1 hi hd ⟨hBl, hB⟩ ih
    have hBl' : B.length ≤ i := hBl
    refine fR rfl ?_
    refine lM rfl rfl rfl ?_
    refine fM rfl ?_
    refine Run.condT rfl rfl (by simp; omega) ?_
    refine fR rfl ?_
    refine Mid.elemMap rfl rfl rfl h1 rfl rfl ?_
    refine fM rfl ?_
    refine Run.cond rfl rfl (fun hc => ?_) (fun hc => ?_)
    · have hc' : (w != 1) = true := hc
      refine fR rfl ?_
      refine Mid.elemMap rfl rfl rfl h1 rfl rfl ?_
      refine fM rfl ?_
      refine apM nE B [w] rfl rfl rfl rfl rfl ?_
      refine fM rfl ?_
      refine aL rfl rfl rfl rfl rfl ?_
      refine fM rfl ?_
      exact rWeak 2 rfl (ih (B ++ [w]) ⟨by simp; omega, by rw [hB]; simp only [loose]; rw [if_pos hc']; simp⟩) rfl rfl rfl
    · have hc' : ¬ (w != 1) = true := by rw [show (w != 1) = false from hc]; simp
      refine fR rfl ?_
      refine aL rfl rfl rfl rfl rfl ?_
      refine fM rfl ?_
      exact rWeak 2 rfl (ih B ⟨by omega, by rw [hB]; simp only [loose]; rw [if_neg hc']⟩) rfl rfl rfl
def shapeF (a b : Ref) : Bool := a.name == b.name && decide (loose a.wraps = loose b.wraps)
theorem shape_ok (H : Pr P) (a b : Ref) (ha : a.Ok) (hb : b.Ok) : FnOk P 101 [a.v, b.v] ⟨[], 0⟩ { v := .t (.bool (shapeF a b)) } := by
  have h1 := loose_le a.wraps
  have h2 := loose_le b.wraps
  have h3 := ha.l
  have h4 := hb.l
  refine FnOk.run H.i101 H.mixed rfl rfl ?_
  refine fR rfl ?_
  refine caG rfl rfl (fun hg => ⟨_, rfl, lists_ok H a ha, rfl⟩) rfl rfl ?_
  refine fM rfl ?_
  refine caG rfl rfl (fun hg => ⟨_, rfl, lists_ok H b hb, rfl⟩) rfl rfl ?_
  skip
  refine caG rfl rfl (fun hg => ⟨_, rfl, same_ok H (loose a.wraps) (loose b.wraps) (by omega) (by omega), rfl⟩) rfl rfl ?_
  refine fM rfl ?_
  refine Run.fin rfl (EndOk.go ?_); exact .t rfl
/-- Fits on wrappers -/
def fitW (nm : Bool) : Nat → List Int → List Int → Bool
  | 0, _, _ => false
  | k + 1, a, b =>
    if (!(nm && decide (loose a = loose b)) || (nnF b && !nnF a)) = true then false
    else if (lstF a && lstF b) = true then fitW nm k (nullF a).tail (nullF b).tail
    else true
end Go.GB.C11

/-
  D11J: contracts of chapter 11's functions: Fits.
-/
namespace Go.GB.C11
open Go.GB
set_option linter.unusedSimpArgs false
set_option linter.unusedVariables false
set_option maxRecDepth 100000
set_option maxHeartbeats 2000000
variable {P : Program}

def FitC (P : Program) (k : Nat) (a b : Ref) : Prop := FnOk P 54 [a.v, b.v] ⟨[], 0⟩ { v := .t (.bool (fitW (a.name == b.name) k a.wraps b.wraps)) }
theorem fits_step (H : Pr P) (k : Nat) (a b : Ref) (ha : a.Ok) (hb : b.Ok)
    (hrec : ∀ x y : Ref, x.Ok → y.Ok → x.wraps.length + y.wraps.length < a.wraps.length + b.wraps.length → FitC P k x y) : FitC P (k + 1) a b := by
  unfold FitC
  refine FnOk.run H.i54 H.mixed rfl rfl ?_
  refine fR rfl ?_
  refine Mid.call (shape_ok H a b ha hb) rfl rfl rfl rfl ?_
  refine fM rfl ?_
  refine caG rfl rfl (fun hg => ⟨_, rfl, rNn_ok H b hb, rfl⟩) rfl rfl ?_
  refine fM rfl ?_
  refine caG rfl rfl (fun hg => ⟨_, rfl, rNn_ok H a ha, rfl⟩) rfl rfl ?_
  refine fM rfl ?_
  refine Run.cond rfl rfl (fun h1 => ?_) (fun h1 => ?_)
  · have h1' : (!(a.name == b.name && decide (loose a.wraps = loose b.wraps)) || (nnF b.wraps && !nnF a.wraps)) = true := h1
    have e : fitW (a.name == b.name) (k + 1) a.wraps b.wraps = false := by simp only [fitW]; rw [if_pos h1']
    refine fR rfl ?_
    refine Run.fin rfl (EndOk.go ?_); exact .t (by rw [e])
  · have h1' : ¬ (!(a.name == b.name && decide (loose a.wraps = loose b.wraps)) || (nnF b.wraps && !nnF a.wraps)) = true := by
      have : (!(a.name == b.name && decide (loose a.wraps = loose b.wraps)) || (nnF b.wraps && !nnF a.wraps)) = false := h1
      rw [this]; simp
    have e : fitW (a.name == b.name) (k + 1) a.wraps b.wraps = if (lstF a.wraps && lstF b.wraps) = true then fitW (a.name == b.name) k (nullF a.wraps).tail (nullF b.wraps).tail else true := by simp only [fitW]; rw [if_neg h1']
    refine fR rfl ?_
    cases hla : lstF a.wraps with
    | true =>
      refine Mid.call (rInnerT_ok H a ha hla) rfl rfl rfl rfl ?_
      refine fM rfl ?_
      cases hlb : lstF b.wraps with
      | true =>
        have hc := hrec ⟨a.name, (nullF a.wraps).tail⟩ ⟨b.name, (nullF b.wraps).tail⟩ (tailOk ha) (tailOk hb) (by
          have h3 := nullF_le a.wraps
          have h4 := nullF_le b.wraps
          obtain ⟨r, hr⟩ := lst_cons hla
          rw [hr] at h3
          simp only [List.length_tail, hr]
          simp at h3 ⊢; omega)
        unfold FitC at hc
        rw [hla, hlb] at e
        refine Mid.call (rInnerT_ok H b hb hlb) rfl rfl rfl rfl ?_
        refine fM rfl ?_
        refine Mid.ungd rfl rfl rfl ?_
        refine Mid.call (hc) rfl rfl rfl rfl ?_
        refine fM rfl ?_
        refine Run.fin rfl (EndOk.go ?_); exact .t (by rw [e]; rfl)
      | false =>
        rw [hla, hlb] at e
        refine Mid.call (rInnerF_ok H b hb hlb) rfl rfl rfl rfl ?_
        refine fM rfl ?_
        refine Mid.grdF rfl rfl rfl rfl rfl ?_
        refine fM rfl ?_
        refine Run.fin rfl (EndOk.go ?_); exact .t (by rw [e]; rfl)
    | false =>
      refine Mid.call (rInnerF_ok H a ha hla) rfl rfl rfl rfl ?_
      refine fM rfl ?_
      cases hlb : lstF b.wraps with
      | true =>
        rw [hla, hlb] at e
        refine Mid.call (rInnerT_ok H b hb hlb) rfl rfl rfl rfl ?_
        refine fM rfl ?_
        refine Mid.grdF rfl rfl rfl rfl rfl ?_
        refine fM rfl ?_
        refine Run.fin rfl (EndOk.go ?_); exact .t (by rw [e]; rfl)
      | false =>
        rw [hla, hlb] at e
        refine Mid.call (rInnerF_ok H b hb hlb) rfl rfl rfl rfl ?_
        refine fM rfl ?_
        refine Mid.grdF rfl rfl rfl rfl rfl ?_
        refine fM rfl ?_
        refine Run.fin rfl (EndOk.go ?_); exact .t (by rw [e]; rfl)
theorem fits_ok (H : Pr P) : ∀ (k : Nat) (a b : Ref), a.wraps.length + b.wraps.length < k → a.Ok → b.Ok → FitC P k a b
  | 0, a, b, h, _, _ => by omega
  | k + 1, a, b, h, ha, hb => fits_step H k a b ha hb fun x y hx hy hlt => fits_ok H k x y (by omega) hx hy

/- plain law: right types are lists of signs, one for each level -/
inductive RW : List Int → Prop
  | base : RW []
  | nn : RW [1]
  | lst {r : List Int} (h : RW r) : RW (2 :: r)
  | nnl {r : List Int} (h : RW r) : RW (1 :: 2 :: r)
theorem rw_of : ∀ {w : List Int}, rgW false false w = true ∨ rgW true false w = true → RW w
  | [], _ => .base
  | [a], h => by
    have : a = 1 ∨ a = 2 := by rcases h with h | h <;> (simp [rgW] at h; omega)
    rcases this with rfl | rfl
    · exact .nn
    · exact .lst .base
  | a :: b :: r, h => by
    have ha : a = 1 ∨ a = 2 := by rcases h with h | h <;> (simp [rgW] at h; omega)
    rcases ha with rfl | rfl
    · have hb : b = 2 := by rcases h with h | h <;> (simp [rgW] at h; omega)
      subst hb
      exact .nnl (rw_of (.inl (by rcases h with h | h <;> (simp [rgW] at h; exact h))))
    · exact .lst (rw_of (.inl (by rcases h with h | h <;> (simp [rgW] at h ⊢; exact h))))
/-- the signs -/
def sg : List Int → List Bool
  | [] => [false]
  | [a] => if a = 1 then [true] else [false, false]
  | a :: b :: r => if a = 1 then true :: sg r else false :: sg (b :: r)
def sgLe : List Bool → List Bool → Bool
  | [], [] => true
  | a :: r, b :: s => (!b || a) && sgLe r s
  | _, _ => false
theorem sg_lst (r : List Int) : sg (2 :: r) = false :: sg r := by
  cases r with
  | nil => rfl
  | cons a r => simp [sg]
theorem sg_nnl (r : List Int) : sg (1 :: 2 :: r) = true :: sg r := by simp [sg]
theorem sg_ne (r : List Int) : sg r ≠ [] := by
  cases r with
  | nil => simp [sg]
  | cons a r => cases r <;> (simp only [sg]; split <;> simp)
theorem sgLe_ne {r : List Bool} (h : r ≠ []) : sgLe [] r = false := by cases r <;> simp_all [sgLe]
theorem sgLe_ne' {r : List Bool} (h : r ≠ []) : sgLe r [] = false := by cases r <;> simp_all [sgLe]
end Go.GB.C11

/-
  D11K: plain law of chapter 11: Sub of right types.
-/
namespace Go.GB.C11
open Go.GB
set_option linter.unusedSimpArgs false
set_option linter.unusedVariables false

theorem sgLe_cons_one (a b : Bool) {r : List Bool} (h : r ≠ []) : sgLe (a :: r) [b] = false := by
  cases r with
  | nil => exact absurd rfl h
  | cons x y => simp [sgLe]
theorem sgLe_one_cons (a b : Bool) {r : List Bool} (h : r ≠ []) : sgLe [a] (b :: r) = false := by
  cases r with
  | nil => exact absurd rfl h
  | cons x y => simp [sgLe]
theorem subW_eq (bas : Bool) : ∀ (k : Nat) (a b : List Int), RW a → RW b → a.length + b.length < k → subW bas k a b = (sgLe (sg a) (sg b) && bas)
  | 0, a, b, _, _, h => by omega
  | k + 1, a, b, ha, hb, h => by
    have ih := subW_eq bas k
    cases ha with
    | base =>
      cases hb with
      | base =>
        simp [subW, nnF, lstF, nullF, headL, sg, sgLe]
      | nn =>
        have e : subW bas (k + 1) [] [1] = false := by simp [subW, nnF]
        rw [e]
        simp [sg, sgLe, sg_lst, sg_nnl, sgLe_cons_one, sgLe_one_cons, sg_ne]
      | @lst s hs =>
        have e : subW bas (k + 1) [] (2 :: s) = false := by simp [subW, nnF, lstF, nullF, headL]
        rw [e]
        simp [sg, sgLe, sg_lst, sg_nnl, sgLe_cons_one, sgLe_one_cons, sg_ne]
      | @nnl s hs =>
        have e : subW bas (k + 1) [] (1 :: 2 :: s) = false := by simp [subW, nnF]
        rw [e]
        simp [sg, sgLe, sg_lst, sg_nnl, sgLe_cons_one, sgLe_one_cons, sg_ne]
    | nn =>
      cases hb with
      | base =>
        have e : subW bas (k + 1) [1] [] = subW bas k [] [] := by simp [subW, nnF, nullF]
        rw [e, ih [] [] .base .base (by simp at h ⊢; omega)]
        simp [sg, sgLe, sg_lst, sg_nnl, sgLe_cons_one, sgLe_one_cons, sg_ne]
      | nn =>
        have e : subW bas (k + 1) [1] [1] = subW bas k [] [] := by simp [subW, nnF, nullF]
        rw [e, ih [] [] .base .base (by simp at h ⊢; omega)]
        simp [sg, sgLe, sg_lst, sg_nnl, sgLe_cons_one, sgLe_one_cons, sg_ne]
      | @lst s hs =>
        have e : subW bas (k + 1) [1] (2 :: s) = subW bas k [] (2 :: s) := by simp [subW, nnF, nullF]
        rw [e, ih [] (2 :: s) .base (.lst hs) (by simp at h ⊢; omega)]
        simp [sg, sgLe, sg_lst, sg_nnl, sgLe_cons_one, sgLe_one_cons, sg_ne]
      | @nnl s hs =>
        have e : subW bas (k + 1) [1] (1 :: 2 :: s) = subW bas k [] (2 :: s) := by simp [subW, nnF, nullF]
        rw [e, ih [] (2 :: s) .base (.lst hs) (by simp at h ⊢; omega)]
        simp [sg, sgLe, sg_lst, sg_nnl, sgLe_cons_one, sgLe_one_cons, sg_ne]
    | @lst r hr =>
      cases hb with
      | base =>
        have e : subW bas (k + 1) (2 :: r) [] = false := by simp [subW, nnF, lstF, nullF, headL]
        rw [e]
        simp [sg, sgLe, sg_lst, sg_nnl, sgLe_cons_one, sgLe_one_cons, sg_ne]
      | nn =>
        have e : subW bas (k + 1) (2 :: r) [1] = false := by simp [subW, nnF]
        rw [e]
        simp [sg, sgLe, sg_lst, sg_nnl, sgLe_cons_one, sgLe_one_cons, sg_ne]
      | @lst s hs =>
        have e : subW bas (k + 1) (2 :: r) (2 :: s) = subW bas k r s := by simp [subW, nnF, nullF, lstF, headL]
        rw [e, ih r s hr hs (by simp at h ⊢; omega)]
        simp [sg, sgLe, sg_lst, sg_nnl, sgLe_cons_one, sgLe_one_cons, sg_ne]
      | @nnl s hs =>
        have e : subW bas (k + 1) (2 :: r) (1 :: 2 :: s) = false := by simp [subW, nnF]
        rw [e]
        simp [sg, sgLe, sg_lst, sg_nnl, sgLe_cons_one, sgLe_one_cons, sg_ne]
    | @nnl r hr =>
      cases hb with
      | base =>
        have e : subW bas (k + 1) (1 :: 2 :: r) [] = subW bas k (2 :: r) [] := by simp [subW, nnF, nullF]
        rw [e, ih (2 :: r) [] (.lst hr) .base (by simp at h ⊢; omega)]
        simp [sg, sgLe, sg_lst, sg_nnl, sgLe_cons_one, sgLe_one_cons, sg_ne]
      | nn =>
        have e : subW bas (k + 1) (1 :: 2 :: r) [1] = subW bas k (2 :: r) [] := by simp [subW, nnF, nullF]
        rw [e, ih (2 :: r) [] (.lst hr) .base (by simp at h ⊢; omega)]
        simp [sg, sgLe, sg_lst, sg_nnl, sgLe_cons_one, sgLe_one_cons, sg_ne]
      | @lst s hs =>
        have e : subW bas (k + 1) (1 :: 2 :: r) (2 :: s) = subW bas k (2 :: r) (2 :: s) := by simp [subW, nnF, nullF]
        rw [e, ih (2 :: r) (2 :: s) (.lst hr) (.lst hs) (by simp at h ⊢; omega)]
        simp [sg, sgLe, sg_lst, sg_nnl, sgLe_cons_one, sgLe_one_cons, sg_ne]
      | @nnl s hs =>
        have e : subW bas (k + 1) (1 :: 2 :: r) (1 :: 2 :: s) = subW bas k (2 :: r) (2 :: s) := by simp [subW, nnF, nullF]
        rw [e, ih (2 :: r) (2 :: s) (.lst hr) (.lst hs) (by simp at h ⊢; omega)]
        simp [sg, sgLe, sg_lst, sg_nnl, sgLe_cons_one, sgLe_one_cons, sg_ne]
theorem fitW_le (nm : Bool) : ∀ (k : Nat) (a b : List Int), RW a → RW b → a.length + b.length < k → fitW nm k a b = true → nm = true ∧ sgLe (sg a) (sg b) = true
  | 0, a, b, _, _, h, _ => by omega
  | k + 1, a, b, ha, hb, h, hf => by
    have ih := fitW_le nm k
    simp only [fitW] at hf
    split at hf
    · cases hf
    · rename_i hc
      have hc' : nm = true ∧ loose a = loose b ∧ (nnF b = true → nnF a = true) := by
        revert hc
        cases nm <;> cases nnF b <;> cases nnF a <;> simp
      obtain ⟨h1, h2, h3⟩ := hc'
      refine ⟨h1, ?_⟩
      cases ha with
      | base =>
        cases hb with
        | base =>
          simp [sg, sgLe]
        | nn =>
          simp [nnF] at h3
        | @lst s hs =>
          simp [loose] at h2
        | @nnl s hs =>
          simp [loose] at h2
      | nn =>
        cases hb with
        | base =>
          simp [sg, sgLe]
        | nn =>
          simp [sg, sgLe]
        | @lst s hs =>
          simp [loose] at h2
        | @nnl s hs =>
          simp [loose] at h2
      | @lst r hr =>
        cases hb with
        | base =>
          simp [loose] at h2
        | nn =>
          simp [loose] at h2
        | @lst s hs =>
          simp [lstF, nullF, headL] at hf
          have := (ih r s hr hs (by simp at h ⊢; omega) hf).2
          simp [sg_lst, sg_nnl, sgLe, this]
        | @nnl s hs =>
          simp [nnF] at h3
      | @nnl r hr =>
        cases hb with
        | base =>
          simp [loose] at h2
        | nn =>
          simp [loose] at h2
        | @lst s hs =>
          simp [lstF, nullF, headL] at hf
          have := (ih r s hr hs (by simp at h ⊢; omega) hf).2
          simp [sg_lst, sg_nnl, sgLe, this]
        | @nnl s hs =>
          simp [lstF, nullF, headL] at hf
          have := (ih r s hr hs (by simp at h ⊢; omega) hf).2
          simp [sg_lst, sg_nnl, sgLe, this]
theorem sgLe_refl : ∀ l : List Bool, sgLe l l = true
  | [] => rfl
  | a :: r => by simp [sgLe, sgLe_refl r]
theorem sgLe_trans : ∀ {a b c : List Bool}, sgLe a b = true → sgLe b c = true → sgLe a c = true
  | [], [], [], _, _ => rfl
  | [], [], _ :: _, _, h => by simp [sgLe] at h
  | [], _ :: _, _, h, _ => by simp [sgLe] at h
  | _ :: _, [], _, h, _ => by simp [sgLe] at h
  | _ :: _, _ :: _, [], _, h => by simp [sgLe] at h
  | a :: r, b :: s, c :: t, h1, h2 => by
    simp only [sgLe, Bool.and_eq_true] at h1 h2 ⊢
    refine ⟨?_, sgLe_trans h1.2 h2.2⟩
    have h3 := h1.1
    have h4 := h2.1
    revert h3 h4
    cases a <;> cases b <;> cases c <;> simp
theorem posL_mem {t : Def} {nm x : Str} : ∀ {r pre : List Def}, x ∈ posL t nm pre r → ∃ o, o ∈ r ∧ o.name = x ∧ o.kind = 1 ∧ isP t nm o = true ∧ ∃ l1 l2, r = l1 ++ o :: l2 ∧ firstF (pre ++ l1) x = true
  | [], pre, h => by simp [posL] at h
  | o :: r, pre, h => by
    simp only [posL] at h
    split at h
    · rename_i hc
      simp only [Bool.and_eq_true, beq_iff_eq] at hc
      rcases List.mem_cons.1 h with rfl | h
      · exact ⟨o, List.mem_cons_self .., rfl, hc.1.1, hc.2, [], r, rfl, by simpa using hc.1.2⟩
      · obtain ⟨o', h1, h2, h3, h4, l1, l2, h5, h6⟩ := posL_mem h
        exact ⟨o', List.mem_cons_of_mem _ h1, h2, h3, h4, o :: l1, l2, by rw [h5]; rfl, by simpa using h6⟩
    · obtain ⟨o', h1, h2, h3, h4, l1, l2, h5, h6⟩ := posL_mem h
      exact ⟨o', List.mem_cons_of_mem _ h1, h2, h3, h4, o :: l1, l2, by rw [h5]; rfl, by simpa using h6⟩
theorem pos_find {ds : List Def} {x c : Str} (h : x ∈ posF ds c) : ∃ o, findDef x ds = some o ∧ o.kind = 1 := by
  rw [posF_eq] at h
  obtain ⟨o, h1, h2, h3, _, l1, l2, h5, h6⟩ := posL_mem h
  refine ⟨o, ?_, h3⟩
  subst h2
  have hat : ds[l1.length]? = some o := by rw [h5]; simp
  refine find_first hat ?_
  rw [h5]; simpa using h6
theorem isF_obj {ds : List Def} {a b : Str} {o : Def} (hb : findDef b ds = some o) (hk : o.kind = 1) (h : isF ds a b = true) : a = b := by
  unfold isF at h
  have h' : a ∈ posF ds b := by simpa using h
  rw [posF_eq, hb] at h'
  obtain ⟨o', _, h2, _, h4, _⟩ := posL_mem h'
  simp only [Option.getD_some, isP, hk] at h4
  simp at h4
  rw [← h2]; exact h4
theorem subB_refl (ds : List Def) (a : Str) : subB ds a a = true := by simp [subB]
theorem subB_trans {ds : List Def} {a b c : Str} (h1 : subB ds a b = true) (h2 : subB ds b c = true) : subB ds a c = true := by
  unfold subB at *
  simp only [Bool.or_eq_true, beq_iff_eq] at *
  rcases h1 with rfl | h1
  · exact h2
  · rcases h2 with rfl | h2
    · exact .inr h1
    · have hm : b ∈ posF ds c := by unfold isF at h2; simpa using h2
      obtain ⟨o, ho, hk⟩ := pos_find hm
      obtain rfl := isF_obj ho hk h1
      exact .inr h2
end Go.GB.C11

/-
  D11L: contracts of chapter 11's functions: the parts of Faces.
-/
namespace Go.GB.C11
open Go.GB
set_option linter.unusedSimpArgs false
set_option linter.unusedVariables false
set_option maxRecDepth 100000
set_option maxHeartbeats 2000000
variable {P : Program}

def Input.v (x : Input) : V := .agg [.t (.str x.name), .t (.str x.ty.name), .t (.lst (x.ty.wraps.map nE)), .t (.bool x.has), .t (.int .i64 x.dflt.kind), .t (.int .i64 x.dflt.int), .t (.str x.dflt.text), .t (.lst (x.dflt.items.map Val.enc)), .t (.lst (x.dflt.keys.map sE)), .t (.lst (x.dirs.map Dir.enc))]
def Input.zero : Input := ⟨[], ⟨[], []⟩, false, Val.zero, []⟩
theorem Input.zero_ok : Input.zero.Ok := ⟨⟨by decide, by decide⟩, Val.zero_ok, by decide, by simp [Input.zero], by decide⟩
def findInput (n : Str) : List Input → Option Input
  | [] => none
  | d :: r => if (d.name == n) = true then some d else findInput n r
theorem findInput_mem {n : Str} : ∀ {l : List Input} {d : Input}, findInput n l = some d → d ∈ l
  | [], d, h => by simp [findInput] at h
  | x :: r, d, h => by
    simp only [findInput] at h
    split at h
    · cases h; exact List.mem_cons_self ..
    · exact List.mem_cons_of_mem _ (findInput_mem h)
theorem inputOf_ok (H : Pr P) (l : List Input) (hl : l.length ≤ 140737488355328) (n : Str) : FnOk P 173 [.t (.lst (l.map Input.enc)), .t (.str n)] ⟨[], 0⟩ { v := .tup [Input.v ((findInput n l).getD Input.zero), .t (.bool (findInput n l).isSome)] } := by
  refine FnOk.run H.i173 H.mixed rfl rfl ?_
  refine fR rfl ?_
  refine lM rfl rfl rfl ?_
  refine fM rfl ?_
  refine rList l (fun i (_ : Unit) => { env := [(1, .t (.str n)), (4, .ptr 0 0), (8, .t (.lst (l.map Input.enc))), (9, .t (.int .i64 l.length)), (10, .t (.int .i64 i))], s := ⟨[(0, .cells [.t (.str []), .t (.str []), .nils, .t (.bool false), .t (.int .i64 0), .t (.int .i64 0), .t (.str []), .nils, .nils, .nils])], 1⟩ }) (fun r i _ => findInput n l = findInput n r) 1 () rfl rfl rfl rfl rfl ?_ ?_
  · intro _ hinv
    refine fR rfl ?_
    refine Run.condF rfl rfl (by simp) ?_
    refine fR rfl ?_
    have e : findInput n l = none := by rw [hinv]; rfl
    rw [e]
    refine Run.fin rfl (EndOk.go ?_); exact .tup2 (.agg (.cons (.t rfl) (.cons (.t rfl) (.cons (.nil rfl) (.cons (.t rfl) (.cons (.t rfl) (.cons (.t rfl) (.cons (.t rfl) (.cons (.nil rfl) (.cons (.nil rfl) (.cons (.nil rfl) .nil))))))))))) (.t rfl)
  · intro i x r _ h1 hi hd hinv ih
    refine fR rfl ?_
    refine Run.condT rfl rfl (by simp; omega) ?_
    refine fR rfl ?_
    refine Mid.elemMap rfl rfl rfl h1 rfl rfl ?_
    refine fM rfl ?_
    refine Run.cond rfl rfl (fun h => ?_) (fun h => ?_)
    · refine fR rfl ?_
      have e : findInput n l = some x := by rw [hinv]; simp only [findInput]; rw [if_pos h]
      rw [e]
      refine Run.fin rfl (EndOk.go ?_); exact .tup2 (.le (.same rfl)) (.t rfl)
    · refine fR rfl ?_
      refine aL rfl rfl rfl rfl rfl ?_
      refine fM rfl ?_
      have h' : ¬ (x.name == n) = true := by rw [h]; simp
      exact rWeak 1 rfl (ih () (by rw [hinv]; simp only [findInput]; rw [if_neg h'])) rfl rfl rfl
def sameR (a b : Ref) : Bool := a.name == b.name && decide (a.wraps = b.wraps)
theorem sameRef_ok (H : Pr P) (a b : Ref) (ha : a.Ok) (hb : b.Ok) : FnOk P 174 [a.v, b.v] ⟨[], 0⟩ { v := .t (.bool (sameR a b)) } := by
  have h1 := ha.l
  have h2 := hb.l
  refine FnOk.run H.i174 H.mixed rfl rfl ?_
  refine fR rfl ?_
  refine caG rfl rfl (fun hg => ⟨_, rfl, equalI_ok H a.wraps b.wraps (by omega) (by omega), rfl⟩) rfl rfl ?_
  refine fM rfl ?_
  refine Run.fin rfl (EndOk.go ?_); exact .t rfl

/-- the report of 'named' -/
def namedF (ds : List Def) (n : Str) (k : Int) : Int :=
  if (!(findDef n ds).isSome && !(scalF n)) = true then 8
  else if (!(findDef n ds).isSome || ((findDef n ds).getD Def.zero).kind != k) = true then 9
  else 0
theorem named_ok (H : Pr P) (ds : List Def) (hD : DocOk ds) (out : List Fault) (n : Str) (k : Int) : FnOk P 107 [.ptr 0 0, .t (.str n), .t (.int .i64 k)] ⟨[(0, .cells [.t (.lst (ds.map Def.enc)), .own 1 2 (out.map Fault.enc)]), (1, .arr out.length)], 2⟩ { v := .t (.int .i64 (namedF ds n k)), rd := true } := by
  refine FnOk.run H.i107 H.mixed rfl rfl ?_
  refine fR rfl ?_
  refine Mid.call (find_ok H ds hD.l n) rfl rfl rfl rfl ?_
  refine fM rfl ?_
  refine caG rfl rfl (fun hg => ⟨_, rfl, scalar_ok H n, rfl⟩) rfl rfl ?_
  refine fM rfl ?_
  refine Run.cond rfl rfl (fun h1 => ?_) (fun h1 => ?_)
  · refine fR rfl ?_
    refine Run.fin rfl (EndOk.sameX rfl rfl rfl (by first | exact rfl | exact nSto_bd | exact tSto_bd) (.t ((by unfold namedF; rw [if_pos h1]))))
  · have h1' : ¬ (!(findDef n ds).isSome && !(scalF n)) = true := by
      rw [show (!(findDef n ds).isSome && !(scalF n)) = false from h1]; simp
    refine fR rfl ?_
    refine Run.cond rfl rfl (fun h2 => ?_) (fun h2 => ?_)
    · refine fR rfl ?_
      refine Run.fin rfl (EndOk.sameX rfl rfl rfl (by first | exact rfl | exact nSto_bd | exact tSto_bd) (.t ((by unfold namedF; rw [if_neg h1', if_pos h2]))))
    · have h2' : ¬ (!(findDef n ds).isSome || ((findDef n ds).getD Def.zero).kind != k) = true := by
        rw [show (!(findDef n ds).isSome || ((findDef n ds).getD Def.zero).kind != k) = false from h2]; simp
      refine fR rfl ?_
      refine Run.fin rfl (EndOk.sameX rfl rfl rfl (by first | exact rfl | exact nSto_bd | exact tSto_bd) (.t ((by unfold namedF; rw [if_neg h1', if_neg h2']))))
theorem add_ok (H : Pr P) (ds : List Def) (out : List Fault) (hl : out.length ≤ 4398046511104) (e : Int) (a : Str) : FnOk P 110 [.ptr 0 0, .t (.int .i64 e), .t (.str a)] ⟨[(0, .cells [.t (.lst (ds.map Def.enc)), .own 1 2 (out.map Fault.enc)]), (1, .arr out.length)], 2⟩ { v := .tup [], ob := [(0, .cells [.t (.lst (ds.map Def.enc)), .own 1 2 ((out ++ [(⟨e, a⟩ : Fault)]).map Fault.enc)]), (1, .arr (out ++ [(⟨e, a⟩ : Fault)]).length)], rd := true } := by
  refine FnOk.run H.i110 H.mixed rfl rfl ?_
  refine fR rfl ?_
  refine apM Fault.enc out [(⟨e, a⟩ : Fault)] rfl rfl rfl rfl rfl ?_
  refine fM rfl ?_
  refine Run.fin rfl (EndOk.chg rfl rfl ?_ ?_)
  · exact .le (.same rfl)
  · exact (by repeat' (first | exact trivial | exact LeX.t | exact LeX.top | exact LeX.nilOwn (Nat.le_of_ble_eq_true rfl) (Nat.le_of_ble_eq_true rfl) | exact LeX.ownT | exact LeX.nilT | exact LeX.same rfl | exact LeX.tEq (by simp) | exact LeX.ownEq (by simp) (Nat.le_of_ble_eq_true rfl) | exact LeX.tEq (by congr 1 <;> omega) | exact Or.inr ⟨Nat.le_of_ble_eq_true rfl, Nat.le_of_ble_eq_true rfl, rfl⟩ | refine Or.inl ⟨Nat.le_of_ble_eq_true rfl, _, rfl, ?_⟩ | refine LeO.cells ?_ | exact LeO.arr rfl | exact LeO.arr (by simp) | exact LeO.mE (by first | rfl | simp) (by first | exact Or.inl rfl | exact Or.inr rfl) | exact LeO.cE (by first | rfl | simp) | exact LeXs.cE (by first | rfl | simp) | refine LeO.map (by first | rfl | simp) ?_ (by first | exact Or.inl rfl | exact Or.inr rfl) | exact LeO.iter (by first | rfl | simp) (Nat.le_of_ble_eq_true rfl) | refine LeXs.cons ?_ ?_ | exact LeXs.nil | refine And.intro ?_ ?_))
end Go.GB.C11

/-
  D11M: contracts of chapter 11's functions: a type and an interface.
-/
namespace Go.GB.C11
open Go.GB
set_option linter.unusedSimpArgs false
set_option linter.unusedVariables false
set_option maxRecDepth 100000
set_option maxHeartbeats 2000000
variable {P : Program}

def subTy (ds : List Def) (a b : Ref) : Bool := subW (subB ds a.name b.name) (a.wraps.length + b.wraps.length + 1) a.wraps b.wraps
theorem subTy_ok (H : Pr P) (ds : List Def) (hD : DocOk ds) (a b : Ref) (ha : a.Ok) (hb : b.Ok) : FnOk P 52 [docV ds, a.v, b.v] ⟨[], 0⟩ { v := .t (.bool (subTy ds a b)) } := sub_ok H ds hD _ a b (Nat.lt_succ_self _) ha hb
theorem rSubTy_ok (H : Pr P) (ds : List Def) (hD : DocOk ds) (a b : Ref) (ha : a.Ok) (hb : b.Ok) : FnOk P 53 [docV ds, a.v, b.v] ⟨[], 0⟩ { v := .t (.bool (subTy ds a b)) } := rSub_ok H ds hD _ a b (Nat.lt_succ_self _) ha hb
def badA (y : Field) (a : Input) : Bool := !(findInput a.name y.args).isSome || !(sameR a.ty ((findInput a.name y.args).getD Input.zero).ty)
def argsA (y : Field) (at_ : Str) : List Input → List Fault
  | [] => []
  | a :: r => if badA y a = true then ⟨22, at_ ++ [40] ++ a.name ++ [41]⟩ :: argsA y at_ r else argsA y at_ r
def badR (x : Field) (b : Input) : Bool := !(findInput b.name x.args).isSome && nnF b.ty.wraps && !b.has
def argsB (x : Field) (at_ : Str) : List Input → List Fault
  | [] => []
  | b :: r => if badR x b = true then ⟨22, at_ ++ [40] ++ b.name ++ [41]⟩ :: argsB x at_ r else argsB x at_ r
def atF (t : Def) (x : Field) : Str := t.name ++ [46] ++ x.name
def fldF (ds : List Def) (t : Def) (x : Field) : List Fault :=
  match findField x.name t.fields with
  | none => [⟨20, atF t x⟩]
  | some y => (if subTy ds y.ty x.ty = true then [] else [(⟨10, atF t x⟩ : Fault)]) ++ (argsA y (atF t x) x.args ++ argsB x (atF t x) y.args)
def faceF (ds : List Def) (t : Def) : List Field → List Fault
  | [] => []
  | x :: r => fldF ds t x ++ faceF ds t r
theorem inOk {l : List Input} (h : ∀ y, y ∈ l → y.Ok) (n : Str) : ((findInput n l).getD Input.zero).Ok := by
  cases e : findInput n l with
  | none => exact Input.zero_ok
  | some x => exact h x (findInput_mem e)

theorem face_ok (H : Pr P) (ds : List Def) (hD : DocOk ds) (t face : Def) (ht : t.Ok) (hf : face.Ok) (out : List Fault) (hl : (out ++ faceF ds t face.fields).length ≤ 4398046511104) :
    FnOk P 155 [.ptr 0 0, t.v, face.v] ⟨[(0, .cells [.t (.lst (ds.map Def.enc)), .own 1 2 (out.map Fault.enc)]), (1, .arr out.length)], 2⟩ { v := .tup [], ob := [(0, .cells [.t (.lst (ds.map Def.enc)), .own 1 2 ((out ++ faceF ds t face.fields).map Fault.enc)]), (1, .arr (out ++ faceF ds t face.fields).length)], rd := true } := by
  have hfl := hf.fl
  have htl := ht.fl
  have htn := ht.nm
  generalize hT : out ++ faceF ds t face.fields = tot at hl
  refine FnOk.run H.i155 H.mixed rfl rfl ?_
  refine fR rfl ?_
  refine lM rfl rfl rfl ?_
  refine fM rfl ?_
  refine rList face.fields (fun i (B : List Fault) => { env := [(0, .ptr 0 0), (4, .ptr 2 0), (20, .t (.lst (face.fields.map Field.enc))), (21, .t (.int .i64 face.fields.length)), (22, .t (.int .i64 i))], s := ⟨[(0, .cells [.t (.lst (ds.map Def.enc)), .own 1 2 (B.map Fault.enc)]), (1, .arr B.length), (2, .cells [.t (.int .i64 t.kind), .t (.str t.name), .t (.lst (t.implements.map sE)), .t (.lst (t.dirs.map Dir.enc)), .t (.lst (t.fields.map Field.enc)), .t (.lst (t.members.map Member.enc)), .t (.lst (t.inputs.map Input.enc))])], 3⟩ }) (fun r i B => B ++ faceF ds t r = tot) 3 out rfl hT rfl rfl rfl ?_ ?_
  · rintro B hB
    obtain rfl : B = tot := by rw [← hB]; simp [faceF]
    refine fR rfl ?_
    refine Run.condF rfl rfl (by simp) ?_
    skip
    refine Run.fin rfl (EndOk.chg rfl rfl ?_ ?_)
    · exact .le (.same rfl)
    · exact (by repeat' (first | exact trivial | exact LeX.t | exact LeX.top | exact LeX.nilOwn (Nat.le_of_ble_eq_true rfl) (Nat.le_of_ble_eq_true rfl) | exact LeX.ownT | exact LeX.nilT | exact LeX.same rfl | exact LeX.tEq (by simp) | exact LeX.ownEq (by simp) (Nat.le_of_ble_eq_true rfl) | exact LeX.tEq (by congr 1 <;> omega) | exact Or.inr ⟨Nat.le_of_ble_eq_true rfl, Nat.le_of_ble_eq_true rfl, rfl⟩ | refine Or.inl ⟨Nat.le_of_ble_eq_true rfl, _, rfl, ?_⟩ | refine LeO.cells ?_ | exact LeO.arr rfl | exact LeO.arr (by simp) | exact LeO.mE (by first | rfl | simp) (by first | exact Or.inl rfl | exact Or.inr rfl) | exact LeO.cE (by first | rfl | simp) | exact LeXs.cE (by first | rfl | simp) | refine LeO.map (by first | rfl | simp) ?_ (by first | exact Or.inl rfl | exact Or.inr rfl) | exact LeO.iter (by first | rfl | simp) (Nat.le_of_ble_eq_true rfl) | refine LeXs.cons ?_ ?_ | exact LeXs.nil | refine And.intro ?_ ?_))
  · rintro i x r B h1 hi hd hB ih
    have hx := hf.f x (List.mem_of_getElem? h1)
    have hxn := hx.nm
    have hatl : List.length (atF t x) ≤ 281474976710657 := by unfold atF; simp; omega
    have hB' : B ++ (fldF ds t x ++ faceF ds t r) = tot := hB
    have hlen : B.length + (fldF ds t x).length ≤ 4398046511104 := by
      have := congrArg List.length hB'
      simp only [List.length_append] at this; omega
    refine fR rfl ?_
    refine Run.condT rfl rfl (by simp; omega) ?_
    refine fR rfl ?_
    refine Mid.elemMap rfl rfl rfl h1 rfl rfl ?_
    refine fM rfl ?_
    refine pu rfl ?_
    refine fM rfl ?_
    refine pu rfl ?_
    refine fM rfl ?_
    refine Mid.call (fieldOf_ok H t htl x.name) rfl rfl rfl rfl ?_
    refine fM rfl ?_
    cases hy : findField x.name t.fields with
    | none =>
      have e : fldF ds t x = [⟨20, atF t x⟩] := by unfold fldF; rw [hy]
      rw [e] at hB' hlen
      refine Run.condT rfl rfl rfl ?_
      refine fR rfl ?_
      refine Mid.callR [0, 1] (add_ok H ds B (by simp at hlen; omega) 20 (atF t x)) rfl rfl rfl rfl (by simp [stoBd]; simp [AObj.bd, V.bds, V.bd]) (by repeat' (first | exact trivial | exact rfl | refine And.intro ?_ ?_ | exact (congrArg some (AObj.ren_mE _ _ _ _ _ _)).symm | exact (congrArg some (AObj.ren_cE _ _ _)).symm)) rfl rfl (ob' := [(0, .cells [.t (.lst (ds.map Def.enc)), .own 1 2 ((B ++ [(⟨20, atF t x⟩ : Fault)]).map Fault.enc)]), (1, .arr (B ++ [(⟨20, atF t x⟩ : Fault)]).length)]) (rfl) rfl rfl ?_
      refine fM rfl ?_
      refine aL rfl rfl rfl rfl rfl ?_
      refine fM rfl ?_
      exact rWeak 3 rfl (ih (B ++ [⟨20, atF t x⟩]) (by rw [← hB']; simp)) rfl rfl rfl
    | some y =>
      have hyo : y.Ok := ht.f y (findField_mem hy)
      have hyl := hyo.al
      have hxl := hx.al
      have e : fldF ds t x = (if subTy ds y.ty x.ty = true then [] else [(⟨10, atF t x⟩ : Fault)]) ++ (argsA y (atF t x) x.args ++ argsB x (atF t x) y.args) := by unfold fldF; rw [hy]
      rw [e] at hB' hlen
      refine Run.condF rfl rfl rfl ?_
      refine fR rfl ?_
      refine Mid.call (subTy_ok H ds hD y.ty x.ty hyo.t hx.t) rfl rfl rfl rfl ?_
      refine fM rfl ?_
      refine Run.cond rfl rfl (fun hs => ?_) (fun hs => ?_)
      · have hs' : ¬ subTy ds y.ty x.ty = true := by simpa using hs
        rw [if_neg hs'] at hB' hlen
        have hBl : B.length ≤ 4398046511104 := by omega
        refine fR rfl ?_
        refine Mid.callR [0, 1] (add_ok H ds B (by omega) 10 (atF t x)) rfl rfl rfl rfl (by simp [stoBd]; simp [AObj.bd, V.bds, V.bd]) (by repeat' (first | exact trivial | exact rfl | refine And.intro ?_ ?_ | exact (congrArg some (AObj.ren_mE _ _ _ _ _ _)).symm | exact (congrArg some (AObj.ren_cE _ _ _)).symm)) rfl rfl (ob' := [(0, .cells [.t (.lst (ds.map Def.enc)), .own 1 2 ((B ++ [(⟨10, atF t x⟩ : Fault)]).map Fault.enc)]), (1, .arr (B ++ [(⟨10, atF t x⟩ : Fault)]).length)]) (rfl) rfl rfl ?_
        refine fM rfl ?_
        refine lM rfl rfl rfl ?_
        refine fM rfl ?_
        refine rList x.args (fun j (C : List Fault) => { env := [(0, .ptr 0 0), (4, .ptr 2 0), (7, .ptr 3 0), (8, .t (.str (atF t x))), (9, .ptr 4 0), (20, .t (.lst (face.fields.map Field.enc))), (21, .t (.int .i64 face.fields.length)), (22, .t (.int .i64 i)), (58, .t (.lst (x.args.map Input.enc))), (59, .t (.int .i64 x.args.length)), (60, .t (.int .i64 j))], s := ⟨[(0, .cells [.t (.lst (ds.map Def.enc)), .own 1 2 (C.map Fault.enc)]), (1, .arr C.length), (2, .cells [.t (.int .i64 t.kind), .t (.str t.name), .t (.lst (t.implements.map sE)), .t (.lst (t.dirs.map Dir.enc)), .t (.lst (t.fields.map Field.enc)), .t (.lst (t.members.map Member.enc)), .t (.lst (t.inputs.map Input.enc))]), (3, .cells [.t (.str x.name), .t (.lst (x.args.map Input.enc)), .t (.str x.ty.name), .t (.lst (x.ty.wraps.map nE)), .t (.lst (x.dirs.map Dir.enc))]), (4, .cells [.t (.str y.name), .t (.lst (y.args.map Input.enc)), .t (.str y.ty.name), .t (.lst (y.ty.wraps.map nE)), .t (.lst (y.dirs.map Dir.enc))])], 5⟩ }) (fun r2 j C => C ++ (argsA y (atF t x) r2 ++ (argsB x (atF t x) y.args ++ faceF ds t r)) = tot) 5 (B ++ [⟨10, atF t x⟩]) rfl (by rw [← hB']; simp) rfl rfl rfl ?_ ?_
        · rintro C hC
          refine fR rfl ?_
          refine Run.condF rfl rfl (by simp) ?_
          refine fR rfl ?_
          refine lM rfl rfl rfl ?_
          refine fM rfl ?_
          refine rList y.args (fun j (D : List Fault) => { env := [(0, .ptr 0 0), (4, .ptr 2 0), (7, .ptr 3 0), (8, .t (.str (atF t x))), (20, .t (.lst (face.fields.map Field.enc))), (21, .t (.int .i64 face.fields.length)), (22, .t (.int .i64 i)), (92, .t (.lst (y.args.map Input.enc))), (93, .t (.int .i64 y.args.length)), (94, .t (.int .i64 j))], s := ⟨[(0, .cells [.t (.lst (ds.map Def.enc)), .own 1 2 (D.map Fault.enc)]), (1, .arr D.length), (2, .cells [.t (.int .i64 t.kind), .t (.str t.name), .t (.lst (t.implements.map sE)), .t (.lst (t.dirs.map Dir.enc)), .t (.lst (t.fields.map Field.enc)), .t (.lst (t.members.map Member.enc)), .t (.lst (t.inputs.map Input.enc))]), (3, .cells [.t (.str x.name), .t (.lst (x.args.map Input.enc)), .t (.str x.ty.name), .t (.lst (x.ty.wraps.map nE)), .t (.lst (x.dirs.map Dir.enc))])], 4⟩ }) (fun r2 j D => D ++ (argsB x (atF t x) r2 ++ faceF ds t r) = tot) 4 C rfl (by simpa [argsA] using hC) rfl rfl rfl ?_ ?_
          · rintro D hD2
            refine fR rfl ?_
            refine Run.condF rfl rfl (by simp) ?_
            refine fR rfl ?_
            refine aL rfl rfl rfl rfl rfl ?_
            refine fM rfl ?_
            exact rWeak 3 rfl (ih D (by simpa [argsB] using hD2)) rfl rfl rfl
          · rintro j c r2 D h2 hj hjd hD2 ih2
            have hcn := (hyo.a c (List.mem_of_getElem? h2)).nm
            have hct := (hyo.a c (List.mem_of_getElem? h2)).t
            refine fR rfl ?_
            refine Run.condT rfl rfl (by simp; omega) ?_
            refine fR rfl ?_
            refine Mid.elemMap rfl rfl rfl h2 rfl rfl ?_
            refine fM rfl ?_
            refine Mid.call (inputOf_ok H x.args hxl c.name) rfl rfl rfl rfl ?_
            refine fM rfl ?_
            refine caG rfl rfl (fun hg => ⟨_, rfl, nn_ok H c.ty hct, rfl⟩) rfl rfl ?_
            refine fM rfl ?_
            refine Run.cond rfl rfl (fun hb => ?_) (fun hb => ?_)
            · have hb' : badR x c = true := hb
              have hD3 : D ++ (⟨22, atF t x ++ [40] ++ c.name ++ [41]⟩ :: argsB x (atF t x) r2 ++ faceF ds t r) = tot := by rw [← hD2]; simp only [argsB]; rw [if_pos hb']
              have hDl : D.length ≤ 4398046511104 := by have := congrArg List.length hD3; simp only [List.length_append] at this; omega
              refine fR rfl ?_
              refine pu rfl ?_
              refine fM rfl ?_
              refine pu rfl ?_
              refine pu rfl ?_
              refine Mid.callR [0, 1] (add_ok H ds D (by omega) 22 (atF t x ++ [40] ++ c.name ++ [41])) rfl rfl rfl rfl (by simp [stoBd]; simp [AObj.bd, V.bds, V.bd]) (by repeat' (first | exact trivial | exact rfl | refine And.intro ?_ ?_ | exact (congrArg some (AObj.ren_mE _ _ _ _ _ _)).symm | exact (congrArg some (AObj.ren_cE _ _ _)).symm)) rfl rfl (ob' := [(0, .cells [.t (.lst (ds.map Def.enc)), .own 1 2 ((D ++ [(⟨22, atF t x ++ [40] ++ c.name ++ [41]⟩ : Fault)]).map Fault.enc)]), (1, .arr (D ++ [(⟨22, atF t x ++ [40] ++ c.name ++ [41]⟩ : Fault)]).length)]) (rfl) rfl rfl ?_
              refine fM rfl ?_
              refine aL rfl rfl rfl rfl rfl ?_
              refine fM rfl ?_
              exact rWeak 4 rfl (ih2 (D ++ [⟨22, atF t x ++ [40] ++ c.name ++ [41]⟩]) (by rw [← hD3]; simp)) rfl rfl rfl
            · have hb' : ¬ badR x c = true := by rw [show badR x c = false from hb]; simp
              refine fR rfl ?_
              refine aL rfl rfl rfl rfl rfl ?_
              refine fM rfl ?_
              exact rWeak 4 rfl (ih2 D (by rw [← hD2]; simp only [argsB]; rw [if_neg hb'])) rfl rfl rfl
        · rintro j a r2 C h2 hj hjd hC ih2
          have han := (hx.a a (List.mem_of_getElem? h2)).nm
          have hat := (hx.a a (List.mem_of_getElem? h2)).t
          refine fR rfl ?_
          refine Run.condT rfl rfl (by simp; omega) ?_
          refine fR rfl ?_
          refine Mid.elemMap rfl rfl rfl h2 rfl rfl ?_
          refine fM rfl ?_
          refine Mid.call (inputOf_ok H y.args hyl a.name) rfl rfl rfl rfl ?_
          refine fM rfl ?_
          refine caG rfl rfl (fun hg => ⟨_, rfl, sameRef_ok H a.ty ((findInput a.name y.args).getD Input.zero).ty hat (inOk hyo.a a.name).t, rfl⟩) rfl rfl ?_
          refine fM rfl ?_
          refine Run.cond rfl rfl (fun hb => ?_) (fun hb => ?_)
          · have hb' : badA y a = true := hb
            have hC3 : C ++ (⟨22, atF t x ++ [40] ++ a.name ++ [41]⟩ :: argsA y (atF t x) r2 ++ (argsB x (atF t x) y.args ++ faceF ds t r)) = tot := by rw [← hC]; simp only [argsA]; rw [if_pos hb']
            have hCl : C.length ≤ 4398046511104 := by have := congrArg List.length hC3; simp only [List.length_append] at this; omega
            refine fR rfl ?_
            refine pu rfl ?_
            refine fM rfl ?_
            refine pu rfl ?_
            refine pu rfl ?_
            refine Mid.callR [0, 1] (add_ok H ds C (by omega) 22 (atF t x ++ [40] ++ a.name ++ [41])) rfl rfl rfl rfl (by simp [stoBd]; simp [AObj.bd, V.bds, V.bd]) (by repeat' (first | exact trivial | exact rfl | refine And.intro ?_ ?_ | exact (congrArg some (AObj.ren_mE _ _ _ _ _ _)).symm | exact (congrArg some (AObj.ren_cE _ _ _)).symm)) rfl rfl (ob' := [(0, .cells [.t (.lst (ds.map Def.enc)), .own 1 2 ((C ++ [(⟨22, atF t x ++ [40] ++ a.name ++ [41]⟩ : Fault)]).map Fault.enc)]), (1, .arr (C ++ [(⟨22, atF t x ++ [40] ++ a.name ++ [41]⟩ : Fault)]).length)]) (rfl) rfl rfl ?_
            refine fM rfl ?_
            refine aL rfl rfl rfl rfl rfl ?_
            refine fM rfl ?_
            exact rWeak 5 rfl (ih2 (C ++ [⟨22, atF t x ++ [40] ++ a.name ++ [41]⟩]) (by rw [← hC3]; simp)) rfl rfl rfl
          · have hb' : ¬ badA y a = true := by rw [show badA y a = false from hb]; simp
            refine fR rfl ?_
            refine aL rfl rfl rfl rfl rfl ?_
            refine fM rfl ?_
            exact rWeak 5 rfl (ih2 C (by rw [← hC]; simp only [argsA]; rw [if_neg hb'])) rfl rfl rfl
      · have hs' : subTy ds y.ty x.ty = true := by simpa using hs
        rw [if_pos hs'] at hB' hlen
        refine fR rfl ?_
        refine lM rfl rfl rfl ?_
        refine fM rfl ?_
        refine rList x.args (fun j (C : List Fault) => { env := [(0, .ptr 0 0), (4, .ptr 2 0), (7, .ptr 3 0), (8, .t (.str (atF t x))), (9, .ptr 4 0), (20, .t (.lst (face.fields.map Field.enc))), (21, .t (.int .i64 face.fields.length)), (22, .t (.int .i64 i)), (58, .t (.lst (x.args.map Input.enc))), (59, .t (.int .i64 x.args.length)), (60, .t (.int .i64 j))], s := ⟨[(0, .cells [.t (.lst (ds.map Def.enc)), .own 1 2 (C.map Fault.enc)]), (1, .arr C.length), (2, .cells [.t (.int .i64 t.kind), .t (.str t.name), .t (.lst (t.implements.map sE)), .t (.lst (t.dirs.map Dir.enc)), .t (.lst (t.fields.map Field.enc)), .t (.lst (t.members.map Member.enc)), .t (.lst (t.inputs.map Input.enc))]), (3, .cells [.t (.str x.name), .t (.lst (x.args.map Input.enc)), .t (.str x.ty.name), .t (.lst (x.ty.wraps.map nE)), .t (.lst (x.dirs.map Dir.enc))]), (4, .cells [.t (.str y.name), .t (.lst (y.args.map Input.enc)), .t (.str y.ty.name), .t (.lst (y.ty.wraps.map nE)), .t (.lst (y.dirs.map Dir.enc))])], 5⟩ }) (fun r2 j C => C ++ (argsA y (atF t x) r2 ++ (argsB x (atF t x) y.args ++ faceF ds t r)) = tot) 5 B rfl (by rw [← hB']; simp) rfl rfl rfl ?_ ?_
        · rintro C hC
          refine fR rfl ?_
          refine Run.condF rfl rfl (by simp) ?_
          refine fR rfl ?_
          refine lM rfl rfl rfl ?_
          refine fM rfl ?_
          refine rList y.args (fun j (D : List Fault) => { env := [(0, .ptr 0 0), (4, .ptr 2 0), (7, .ptr 3 0), (8, .t (.str (atF t x))), (20, .t (.lst (face.fields.map Field.enc))), (21, .t (.int .i64 face.fields.length)), (22, .t (.int .i64 i)), (92, .t (.lst (y.args.map Input.enc))), (93, .t (.int .i64 y.args.length)), (94, .t (.int .i64 j))], s := ⟨[(0, .cells [.t (.lst (ds.map Def.enc)), .own 1 2 (D.map Fault.enc)]), (1, .arr D.length), (2, .cells [.t (.int .i64 t.kind), .t (.str t.name), .t (.lst (t.implements.map sE)), .t (.lst (t.dirs.map Dir.enc)), .t (.lst (t.fields.map Field.enc)), .t (.lst (t.members.map Member.enc)), .t (.lst (t.inputs.map Input.enc))]), (3, .cells [.t (.str x.name), .t (.lst (x.args.map Input.enc)), .t (.str x.ty.name), .t (.lst (x.ty.wraps.map nE)), .t (.lst (x.dirs.map Dir.enc))])], 4⟩ }) (fun r2 j D => D ++ (argsB x (atF t x) r2 ++ faceF ds t r) = tot) 4 C rfl (by simpa [argsA] using hC) rfl rfl rfl ?_ ?_
          · rintro D hD2
            refine fR rfl ?_
            refine Run.condF rfl rfl (by simp) ?_
            refine fR rfl ?_
            refine aL rfl rfl rfl rfl rfl ?_
            refine fM rfl ?_
            exact rWeak 3 rfl (ih D (by simpa [argsB] using hD2)) rfl rfl rfl
          · rintro j c r2 D h2 hj hjd hD2 ih2
            have hcn := (hyo.a c (List.mem_of_getElem? h2)).nm
            have hct := (hyo.a c (List.mem_of_getElem? h2)).t
            refine fR rfl ?_
            refine Run.condT rfl rfl (by simp; omega) ?_
            refine fR rfl ?_
            refine Mid.elemMap rfl rfl rfl h2 rfl rfl ?_
            refine fM rfl ?_
            refine Mid.call (inputOf_ok H x.args hxl c.name) rfl rfl rfl rfl ?_
            refine fM rfl ?_
            refine caG rfl rfl (fun hg => ⟨_, rfl, nn_ok H c.ty hct, rfl⟩) rfl rfl ?_
            refine fM rfl ?_
            refine Run.cond rfl rfl (fun hb => ?_) (fun hb => ?_)
            · have hb' : badR x c = true := hb
              have hD3 : D ++ (⟨22, atF t x ++ [40] ++ c.name ++ [41]⟩ :: argsB x (atF t x) r2 ++ faceF ds t r) = tot := by rw [← hD2]; simp only [argsB]; rw [if_pos hb']
              have hDl : D.length ≤ 4398046511104 := by have := congrArg List.length hD3; simp only [List.length_append] at this; omega
              refine fR rfl ?_
              refine pu rfl ?_
              refine fM rfl ?_
              refine pu rfl ?_
              refine pu rfl ?_
              refine Mid.callR [0, 1] (add_ok H ds D (by omega) 22 (atF t x ++ [40] ++ c.name ++ [41])) rfl rfl rfl rfl (by simp [stoBd]; simp [AObj.bd, V.bds, V.bd]) (by repeat' (first | exact trivial | exact rfl | refine And.intro ?_ ?_ | exact (congrArg some (AObj.ren_mE _ _ _ _ _ _)).symm | exact (congrArg some (AObj.ren_cE _ _ _)).symm)) rfl rfl (ob' := [(0, .cells [.t (.lst (ds.map Def.enc)), .own 1 2 ((D ++ [(⟨22, atF t x ++ [40] ++ c.name ++ [41]⟩ : Fault)]).map Fault.enc)]), (1, .arr (D ++ [(⟨22, atF t x ++ [40] ++ c.name ++ [41]⟩ : Fault)]).length)]) (rfl) rfl rfl ?_
              refine fM rfl ?_
              refine aL rfl rfl rfl rfl rfl ?_
              refine fM rfl ?_
              exact rWeak 4 rfl (ih2 (D ++ [⟨22, atF t x ++ [40] ++ c.name ++ [41]⟩]) (by rw [← hD3]; simp)) rfl rfl rfl
            · have hb' : ¬ badR x c = true := by rw [show badR x c = false from hb]; simp
              refine fR rfl ?_
              refine aL rfl rfl rfl rfl rfl ?_
              refine fM rfl ?_
              exact rWeak 4 rfl (ih2 D (by rw [← hD2]; simp only [argsB]; rw [if_neg hb'])) rfl rfl rfl
        · rintro j a r2 C h2 hj hjd hC ih2
          have han := (hx.a a (List.mem_of_getElem? h2)).nm
          have hat := (hx.a a (List.mem_of_getElem? h2)).t
          refine fR rfl ?_
          refine Run.condT rfl rfl (by simp; omega) ?_
          refine fR rfl ?_
          refine Mid.elemMap rfl rfl rfl h2 rfl rfl ?_
          refine fM rfl ?_
          refine Mid.call (inputOf_ok H y.args hyl a.name) rfl rfl rfl rfl ?_
          refine fM rfl ?_
          refine caG rfl rfl (fun hg => ⟨_, rfl, sameRef_ok H a.ty ((findInput a.name y.args).getD Input.zero).ty hat (inOk hyo.a a.name).t, rfl⟩) rfl rfl ?_
          refine fM rfl ?_
          refine Run.cond rfl rfl (fun hb => ?_) (fun hb => ?_)
          · have hb' : badA y a = true := hb
            have hC3 : C ++ (⟨22, atF t x ++ [40] ++ a.name ++ [41]⟩ :: argsA y (atF t x) r2 ++ (argsB x (atF t x) y.args ++ faceF ds t r)) = tot := by rw [← hC]; simp only [argsA]; rw [if_pos hb']
            have hCl : C.length ≤ 4398046511104 := by have := congrArg List.length hC3; simp only [List.length_append] at this; omega
            refine fR rfl ?_
            refine pu rfl ?_
            refine fM rfl ?_
            refine pu rfl ?_
            refine pu rfl ?_
            refine Mid.callR [0, 1] (add_ok H ds C (by omega) 22 (atF t x ++ [40] ++ a.name ++ [41])) rfl rfl rfl rfl (by simp [stoBd]; simp [AObj.bd, V.bds, V.bd]) (by repeat' (first | exact trivial | exact rfl | refine And.intro ?_ ?_ | exact (congrArg some (AObj.ren_mE _ _ _ _ _ _)).symm | exact (congrArg some (AObj.ren_cE _ _ _)).symm)) rfl rfl (ob' := [(0, .cells [.t (.lst (ds.map Def.enc)), .own 1 2 ((C ++ [(⟨22, atF t x ++ [40] ++ a.name ++ [41]⟩ : Fault)]).map Fault.enc)]), (1, .arr (C ++ [(⟨22, atF t x ++ [40] ++ a.name ++ [41]⟩ : Fault)]).length)]) (rfl) rfl rfl ?_
            refine fM rfl ?_
            refine aL rfl rfl rfl rfl rfl ?_
            refine fM rfl ?_
            exact rWeak 5 rfl (ih2 (C ++ [⟨22, atF t x ++ [40] ++ a.name ++ [41]⟩]) (by rw [← hC3]; simp)) rfl rfl rfl
          · have hb' : ¬ badA y a = true := by rw [show badA y a = false from hb]; simp
            refine fR rfl ?_
            refine aL rfl rfl rfl rfl rfl ?_
            refine fM rfl ?_
            exact rWeak 5 rfl (ih2 C (by rw [← hC]; simp only [argsA]; rw [if_neg hb'])) rfl rfl rfl
end Go.GB.C11
