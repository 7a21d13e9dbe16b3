/-
  YtkhekeacdnhkpaaP7: lemmas of this proof (part 7). No conditions.
-/
import Derived.Test.YtkhekeacdnhkpaaP4
import Derived.Test.YtkhekeacdnhkpaaP6
import Derived.KernelRfl

/-
  E13A: documents' selections as data; chapter 13's functions: finding fragments, names.
-/
namespace Go.GB
inductive Sel where
  | mk (kind : Int) (ali name on : Str) (args : List Arg) (dirs : List Dir) (sels : List Sel)
namespace Sel
def kind : Sel → Int | .mk k _ _ _ _ _ _ => k
def ali : Sel → Str | .mk _ k _ _ _ _ _ => k
def name : Sel → Str | .mk _ _ k _ _ _ _ => k
def on : Sel → Str | .mk _ _ _ k _ _ _ => k
def args : Sel → List Arg | .mk _ _ _ _ k _ _ => k
def dirs : Sel → List Dir | .mk _ _ _ _ _ k _ => k
def sels : Sel → List Sel | .mk _ _ _ _ _ _ k => k
mutual
def enc : Sel → List T
  | .mk k a n o ar ds ss => [.int .i64 k, .str a, .str n, .str o, .lst (ar.map Arg.enc), .lst (ds.map Dir.enc), .lst (encs ss)]
def encs : List Sel → List (List T)
  | [] => []
  | v :: r => v.enc :: encs r
end
theorem encs_map : ∀ l : List Sel, encs l = l.map enc
  | [] => by simp [encs]
  | v :: r => by simp [encs, encs_map r]
def cs (v : Sel) : List T := [.int .i64 v.kind, .str v.ali, .str v.name, .str v.on, .lst (v.args.map Arg.enc), .lst (v.dirs.map Dir.enc), .lst (v.sels.map enc)]
theorem enc_eq (v : Sel) : v.enc = v.cs := by
  cases v; simp [enc, cs, kind, ali, name, on, args, dirs, sels, encs_map]
theorem size_sels : ∀ (v : Sel) , SizeOf.sizeOf v.sels < SizeOf.sizeOf v
  | .mk k a n o ar ds ss => by simp only [sels, Sel.mk.sizeOf_spec]; omega
def v (v : Sel) : V := .agg [.t (.int .i64 v.kind), .t (.str v.ali), .t (.str v.name), .t (.str v.on), .t (.lst (v.args.map Arg.enc)), .t (.lst (v.dirs.map Dir.enc)), .t (.lst (v.sels.map enc))]
end Sel
inductive Sel.Ok : Sel → Prop where
  | mk {k : Int} {a n o : Str} {ar : List Arg} {ds : List Dir} {ss : List Sel} (h1 : a.length ≤ 140737488355328) (h2 : n.length ≤ 140737488355328) (h3 : o.length ≤ 140737488355328) (h4 : ar.length * 96 ≤ B47) (h5 : ds.length ≤ 140737488355328) (h6 : ss.length * 128 ≤ B47)
    (h7 : ∀ x, x ∈ ar → x.Ok ∧ x.name.length ≤ 140737488355328) (h8 : ∀ x, x ∈ ds → x.Ok ∧ ∀ y, y ∈ x.args → y.name.length ≤ 140737488355328) (h9 : ∀ x, x ∈ ss → Sel.Ok x) : Sel.Ok (.mk k a n o ar ds ss)
namespace Sel.Ok
theorem al {v : Sel} (h : v.Ok) : v.ali.length ≤ 140737488355328 := by cases h with | mk h1 => exact h1
theorem nm {v : Sel} (h : v.Ok) : v.name.length ≤ 140737488355328 := by cases h with | mk h1 h2 => exact h2
theorem on {v : Sel} (h : v.Ok) : v.on.length ≤ 140737488355328 := by cases h with | mk h1 h2 h3 => exact h3
theorem arl {v : Sel} (h : v.Ok) : v.args.length * 96 ≤ 140737488355328 := by cases h with | mk h1 h2 h3 h4 => exact h4
theorem dl {v : Sel} (h : v.Ok) : v.dirs.length ≤ 140737488355328 := by cases h with | mk h1 h2 h3 h4 h5 => exact h5
theorem sl {v : Sel} (h : v.Ok) : v.sels.length * 128 ≤ 140737488355328 := by cases h with | mk h1 h2 h3 h4 h5 h6 => exact h6
theorem ar {v : Sel} (h : v.Ok) : ∀ x, x ∈ v.args → x.Ok ∧ x.name.length ≤ 140737488355328 := by cases h with | mk h1 h2 h3 h4 h5 h6 h7 => exact h7
theorem d {v : Sel} (h : v.Ok) : ∀ x, x ∈ v.dirs → x.Ok ∧ ∀ y, y ∈ x.args → y.name.length ≤ 140737488355328 := by cases h with | mk h1 h2 h3 h4 h5 h6 h7 h8 => exact h8
theorem s {v : Sel} (h : v.Ok) : ∀ x, x ∈ v.sels → x.Ok := by cases h with | mk h1 h2 h3 h4 h5 h6 h7 h8 h9 => exact h9
end Sel.Ok
structure Var where
  name : Str
  ty : Ref
  has : Bool
  dflt : Val
def Var.enc (x : Var) : List T := [.str x.name, .str x.ty.name, .lst (x.ty.wraps.map nE), .bool x.has, .int .i64 x.dflt.kind, .int .i64 x.dflt.int, .str x.dflt.text, .lst (x.dflt.items.map Val.enc), .lst (x.dflt.keys.map sE)]
structure Op where
  kind : Int
  name : Str
  vars : List Var
  sels : List Sel
def Op.enc (x : Op) : List T := [.int .i64 x.kind, .str x.name, .lst (x.vars.map Var.enc), .lst (x.sels.map Sel.enc)]
structure Frag where
  name : Str
  on : Str
  sels : List Sel
def Frag.enc (x : Frag) : List T := [.str x.name, .str x.on, .lst (x.sels.map Sel.enc)]
def Frag.v (x : Frag) : V := .agg [.t (.str x.name), .t (.str x.on), .t (.lst (x.sels.map Sel.enc))]
def Frag.zero : Frag := ⟨[], [], []⟩
structure Query where
  ops : List Op
  frags : List Frag
def Query.v (q : Query) : V := .agg [.t (.lst (q.ops.map Op.enc)), .t (.lst (q.frags.map Frag.enc))]
def SelsOk (l : List Sel) : Prop := l.length * 128 ≤ 140737488355328 ∧ ∀ x, x ∈ l → x.Ok
structure Var.Ok (x : Var) : Prop where
  nm : x.name.length ≤ 140737488355328
  t : x.ty.Ok
  v : x.dflt.Ok
structure Op.Ok (x : Op) : Prop where
  nm : x.name.length ≤ 140737488355328
  vl : x.vars.length ≤ 140737488355328
  v : ∀ y, y ∈ x.vars → y.Ok
  s : SelsOk x.sels
structure Frag.Ok (x : Frag) : Prop where
  nm : x.name.length ≤ 140737488355328
  on : x.on.length ≤ 140737488355328
  s : SelsOk x.sels
theorem Frag.zero_ok : Frag.zero.Ok := ⟨by decide, by decide, by decide, by simp [Frag.zero]⟩
structure Query.Ok (q : Query) : Prop where
  ol : q.ops.length ≤ 140737488355328
  o : ∀ x, x ∈ q.ops → x.Ok
  fl : q.frags.length * 56 ≤ 140737488355328
  f : ∀ x, x ∈ q.frags → x.Ok
theorem SelsOk.sub {x : Sel} (h : x.Ok) : SelsOk x.sels := ⟨h.sl, h.s⟩
end Go.GB
namespace Go.GB.C11
open Go.GB
set_option linter.unusedSimpArgs false
set_option linter.unusedVariables false
set_option maxRecDepth 100000
set_option maxHeartbeats 2000000
structure Pr13 (P : Program) : Prop extends Pr P where
  i11 : fnInfo P 11 = some (n11, c11.bare, r11)
  i32 : fnInfo P 32 = some (n32, c32.bare, r32)
  i33 : fnInfo P 33 = some (n33, c33.bare, r33)
  i34 : fnInfo P 34 = some (n34, c34.bare, r34)
  i35 : fnInfo P 35 = some (n35, c35.bare, r35)
  i37 : fnInfo P 37 = some (n37, c37.bare, r37)
  i38 : fnInfo P 38 = some (n38, c38.bare, r38)
  i39 : fnInfo P 39 = some (n39, c39.bare, r39)
  i41 : fnInfo P 41 = some (n41, c41.bare, r41)
  i43 : fnInfo P 43 = some (n43, c43.bare, r43)
  i69 : fnInfo P 69 = some (n69, c69.bare, r69)
  i70 : fnInfo P 70 = some (n70, c70.bare, r70)
  i71 : fnInfo P 71 = some (n71, c71.bare, r71)
  i72 : fnInfo P 72 = some (n72, c72.bare, r72)
  i73 : fnInfo P 73 = some (n73, c73.bare, r73)
  i74 : fnInfo P 74 = some (n74, c74.bare, r74)
  i75 : fnInfo P 75 = some (n75, c75.bare, r75)
  i76 : fnInfo P 76 = some (n76, c76.bare, r76)
  i77 : fnInfo P 77 = some (n77, c77.bare, r77)
  i78 : fnInfo P 78 = some (n78, c78.bare, r78)
  i79 : fnInfo P 79 = some (n79, c79.bare, r79)
  i80 : fnInfo P 80 = some (n80, c80.bare, r80)
  i127 : fnInfo P 127 = some (n127, c127.bare, r127)
  i128 : fnInfo P 128 = some (n128, c128.bare, r128)
  i129 : fnInfo P 129 = some (n129, c129.bare, r129)
  i130 : fnInfo P 130 = some (n130, c130.bare, r130)
  i131 : fnInfo P 131 = some (n131, c131.bare, r131)
  i132 : fnInfo P 132 = some (n132, c132.bare, r132)
  i133 : fnInfo P 133 = some (n133, c133.bare, r133)
  i135 : fnInfo P 135 = some (n135, c135.bare, r135)
  i159 : fnInfo P 159 = some (n159, c159.bare, r159)
  i164 : fnInfo P 164 = some (n164, c164.bare, r164)
  i165 : fnInfo P 165 = some (n165, c165.bare, r165)
  i166 : fnInfo P 166 = some (n166, c166.bare, r166)
  i167 : fnInfo P 167 = some (n167, c167.bare, r167)
  i168 : fnInfo P 168 = some (n168, c168.bare, r168)
  i179 : fnInfo P 179 = some (n179, c179.bare, r179)
  i180 : fnInfo P 180 = some (n180, c180.bare, r180)
  i181 : fnInfo P 181 = some (n181, c181.bare, r181)
  i182 : fnInfo P 182 = some (n182, c182.bare, r182)
  i183 : fnInfo P 183 = some (n183, c183.bare, r183)
  i190 : fnInfo P 190 = some (n190, c190.bare, r190)
  i191 : fnInfo P 191 = some (n191, c191.bare, r191)
variable {P : Program}

def findFrag (n : Str) : List Frag → Option Frag
  | [] => none
  | d :: r => if (d.name == n) = true then some d else findFrag n r
theorem findFrag_mem {n : Str} : ∀ {l : List Frag} {d : Frag}, findFrag n l = some d → d ∈ l
  | [], d, h => by simp [findFrag] at h
  | x :: r, d, h => by
    simp only [findFrag] at h
    split at h
    · cases h; exact List.mem_cons_self ..
    · exact List.mem_cons_of_mem _ (findFrag_mem h)
theorem findFrag_name {n : Str} : ∀ {l : List Frag} {d : Frag}, findFrag n l = some d → d.name = n
  | [], d, h => by simp [findFrag] at h
  | x :: r, d, h => by
    simp only [findFrag] at h
    split at h
    · rename_i hx; cases h; simpa using hx
    · exact findFrag_name h
theorem fragOk {q : Query} (h : q.Ok) (n : Str) : ((findFrag n q.frags).getD Frag.zero).Ok := by
  cases hf : findFrag n q.frags with
  | none => exact Frag.zero_ok
  | some x => exact h.f x (findFrag_mem hf)
theorem qfind_ok (H : Pr13 P) (q : Query) (hq : q.Ok) (n : Str) : FnOk P 37 [q.v, .t (.str n)] ⟨[], 0⟩ { v := .tup [((findFrag n q.frags).getD Frag.zero).v, .t (.bool (findFrag n q.frags).isSome)] } := by
  have hl := hq.fl
  refine FnOk.run H.i37 H.mixed rfl rfl ?_
  refine fR rfl ?_
  refine lM rfl rfl rfl ?_
  refine fM rfl ?_
  refine rList q.frags (fun i (_ : Unit) => { env := [(1, .t (.str n)), (4, .ptr 1 0), (9, .t (.lst (q.frags.map Frag.enc))), (10, .t (.int .i64 q.frags.length)), (11, .t (.int .i64 i))], s := ⟨[(1, .cells [.t (.str []), .t (.str []), .nils])], 2⟩ }) (fun r i _ => findFrag n q.frags = findFrag n r) 2 () rfl rfl rfl rfl rfl ?_ ?_
  · intro _ hinv
    refine fR rfl ?_
    refine Run.condF rfl rfl (by simp) ?_
    refine fR rfl ?_
    have e : findFrag n q.frags = none := by rw [hinv]; rfl
    rw [e]
    refine Run.fin rfl (EndOk.go ?_); exact .tup2 (.agg (.cons (.t rfl) (.cons (.t rfl) (.cons (.nil rfl) .nil)))) (.t rfl)
  · intro i x r _ h1 hi hd hinv ih
    refine fR rfl ?_
    refine Run.condT rfl rfl (by simp; omega) ?_
    refine fR rfl ?_
    refine Mid.elemMap rfl rfl rfl h1 rfl rfl ?_
    refine fM rfl ?_
    refine Run.cond rfl rfl (fun h => ?_) (fun h => ?_)
    · refine fR rfl ?_
      have e : findFrag n q.frags = some x := by rw [hinv]; simp only [findFrag]; rw [if_pos h]
      rw [e]
      refine Run.fin rfl (EndOk.go ?_); exact .tup2 (.le (.same rfl)) (.t rfl)
    · refine fR rfl ?_
      refine aL rfl rfl rfl rfl rfl ?_
      refine fM rfl ?_
      have h' : ¬ (x.name == n) = true := by rw [h]; simp
      exact rWeak 2 rfl (ih () (by rw [hinv]; simp only [findFrag]; rw [if_neg h'])) rfl rfl rfl
theorem rqfind_ok (H : Pr13 P) (q : Query) (hq : q.Ok) (n : Str) : FnOk P 38 [q.v, .t (.str n)] ⟨[], 0⟩ { v := .tup [((findFrag n q.frags).getD Frag.zero).v, .t (.bool (findFrag n q.frags).isSome)] } := by
  have hl := hq.fl
  refine FnOk.run H.i38 H.mixed rfl rfl ?_
  refine fR rfl ?_
  refine rList q.frags (fun i (_ : Unit) => { env := [(1, .t (.str n)), (2, .ptr 0 0), (4, .ptr 1 0), (6, .t (.int .i64 i))], s := ⟨[(0, .cells [.t (.lst (q.ops.map Op.enc)), .t (.lst (q.frags.map Frag.enc))]), (1, .cells [.t (.str []), .t (.str []), .nils])], 2⟩ }) (fun r i _ => findFrag n q.frags = findFrag n r) 2 () rfl rfl rfl rfl rfl ?_ ?_
  · intro _ hinv
    refine fR rfl ?_
    refine lM rfl rfl rfl ?_
    refine fM rfl ?_
    refine Run.condF rfl rfl (by simp) ?_
    refine fR rfl ?_
    have e : findFrag n q.frags = none := by rw [hinv]; rfl
    rw [e]
    refine Run.fin rfl (EndOk.go ?_); exact .tup2 (.agg (.cons (.t rfl) (.cons (.t rfl) (.cons (.nil rfl) .nil)))) (.t rfl)
  · intro i x r _ h1 hi hd hinv ih
    refine fR rfl ?_
    refine lM rfl rfl rfl ?_
    refine fM rfl ?_
    refine Run.condT rfl rfl (by simp; omega) ?_
    refine fR rfl ?_
    refine Mid.elemMap rfl rfl rfl h1 rfl rfl ?_
    refine fM rfl ?_
    refine Run.cond rfl rfl (fun h => ?_) (fun h => ?_)
    · refine fR rfl ?_
      refine Mid.elemMap rfl rfl rfl h1 rfl rfl ?_
      refine fM rfl ?_
      have e : findFrag n q.frags = some x := by rw [hinv]; simp only [findFrag]; rw [if_pos h]
      rw [e]
      refine Run.fin rfl (EndOk.go ?_); exact .tup2 (.le (.same rfl)) (.t rfl)
    · refine fR rfl ?_
      refine aL rfl rfl rfl rfl rfl ?_
      refine fM rfl ?_
      have h' : ¬ (x.name == n) = true := by rw [h]; simp
      exact rWeak 2 rfl (ih () (by rw [hinv]; simp only [findFrag]; rw [if_neg h'])) rfl rfl rfl
theorem has13_ok (H : Pr13 P) (l : List Str) (hl : l.length ≤ 140737488355328) (s : Str) : FnOk P 127 [.t (.lst (l.map sE)), .t (.str s)] ⟨[], 0⟩ { v := .t (.bool (decide (s ∈ l))) } := by
  refine FnOk.run H.i127 H.mixed rfl rfl ?_
  refine fR rfl ?_
  refine rList l (fun i (_ : Unit) => { env := [(0, .t (.lst (l.map sE))), (1, .t (.str s)), (5, .t (.int .i64 i))], s := ⟨[], 0⟩ }) (fun r i _ => decide (s ∈ l) = decide (s ∈ r)) 0 () rfl rfl rfl rfl rfl ?_ ?_
  · intro _ hinv
    refine fR rfl ?_
    refine lM rfl rfl rfl ?_
    refine fM rfl ?_
    refine Run.condF rfl rfl (by simp) ?_
    refine fR rfl ?_
    refine Run.fin rfl (EndOk.go ?_); exact .t (by rw [hinv]; simp)
  · intro i x r _ h1 hi hd hinv ih
    refine fR rfl ?_
    refine lM rfl rfl rfl ?_
    refine fM rfl ?_
    refine Run.condT rfl rfl (by simp; omega) ?_
    refine fR rfl ?_
    refine Mid.elemMap rfl rfl rfl h1 rfl rfl ?_
    refine fM rfl ?_
    refine Run.cond rfl rfl (fun h => ?_) (fun h => ?_)
    · have h' : x = s := by simpa using h
      refine fR rfl ?_
      refine Run.fin rfl (EndOk.go ?_); exact .t (by rw [hinv]; simp [h'])
    · have h' : ¬ x = s := by simpa using h
      have h2 : ¬ s = x := fun e => h' e.symm
      refine fR rfl ?_
      refine aL rfl rfl rfl rfl rfl ?_
      refine fM rfl ?_
      exact rWeak 0 rfl (ih () (by rw [hinv]; simp [h2])) rfl rfl rfl
end Go.GB.C11


/-
  GbRj: a contract for those who know more of what they hand over.
-/
namespace Go.GB
variable {P : Program}
theorem FnOk.wk {f : FuncId} {vs vs' : List V} {s s' : S} {out out' : Out} (h : FnOk P f vs' s' out') (hm : s.nxt ≤ s'.nxt) (hv : LeXs s.nxt s'.nxt vs vs') (hs : LeS s.nxt s'.nxt s.sto s'.sto)
    (hn : s.nxt + out.n = s'.nxt + out'.n) (ho : asets s'.sto out'.ob = asets s.sto out.ob) (hx : out'.v = out.v) : FnOk P f vs s out := by
  refine ⟨h.1, fun Λ args h1 h2 h3 h4 => ?_⟩
  have hl := hv.length
  have := h.2 (Λ.cut s.nxt s'.nxt) args (h1.weak (by omega) hm hs) rfl (by omega) (fun j v x a1 a2 => by
    have hj : j < vs.length := by rw [hl]; exact (List.getElem?_eq_some_iff.1 a2).1
    have hc := List.getElem?_eq_getElem hj
    exact (hv.at j _ x hc a2).cut hm (by omega) (h4 j v _ a1 hc))
  refine Calls.mono this ?_
  rintro e w' ⟨v, Λ', e1, e2, e3, e4, e5, e6⟩
  exact ⟨v, Λ', e1, e2, ((Kp.refl Λ).cut (by omega) hm).trans e3, by omega, by rw [← ho]; exact e5, by rw [← hx]; exact e6⟩
section
variable {n m : Nat} {R : St → Prop} {draw : Bool} {all : List AO} {after : List (List Nat)} {live : List Nat} {k : List It} {b b' : Nat} {fl : List (Bool × Bool)} {ops : List AO} {st st' : St} {d : Option Nat}
/-- a call under a guard, of a function that only reads objects; r: the caller's names of them -/
theorem Mid.callRG {f : FuncId} {s : Nat} {want gc : Bool} {args : List Ar} {vs' : List V} {ps : List Bool} {s1 : List (Nat × AObj)} {m1 : Nat} {x : V} (r : List Nat) (hg : gcondF want (look st.env s) = some gc) (hv : argsG gc st args (fun vs ps => some (vs, ps)) = some (vs', ps))
    (h : gc = true → ∃ vs, FnOk P f vs ⟨s1, m1⟩ { v := x, rd := true } ∧ V.rens (renF r b) vs = vs' ∧ V.bds m1 vs = true) (hr : (nodupB r && (r.all (fun k => Nat.blt k b)) && Nat.beq r.length m1) = true)
    (hs1 : stoBd m1 s1 = true) (hsub : subS (renF r b) st.s.sto s1 m1) (hs : stepV st d (.gd gc (x.ren (renF r b))) some = some st')
    (h' : Mid P n m R draw all after live k b ((true, false) :: fl) ops st') (hp : pall (ps.map fun p => !gc || p) := by (repeat' (first | exact trivial | exact Bool.not_or_self _ | exact grd1 _ | exact grd2 _ | exact grd3 _ _ | exact grd4 _ _ | refine And.intro ?_ ?_ | exact rfl | (simp; done) | (simp <;> omega))); done) : Mid P n m R draw all after live k b fl (⟨d, some (s, want), .call f args⟩ :: ops) st := by
  rw [gcondF_eq] at hg
  simp only [stepV, V.force_eq, setEnv_eq, St.forceS_eq, Option.some.injEq] at hs
  have e0 : st' = st.app d { v := .gd gc (x.ren (renF r b)), rd := true } := by rw [← hs]; cases d <;> rfl
  rw [e0] at h'
  unfold Mid at h' ⊢
  simp only [evR, evO, hg, evalE]
  refine .inl ⟨{ v := x.ren (renF r b), rd := true }, ?_, ⟨rfl, rfl⟩, ?_⟩
  · intro hgc
    obtain ⟨vs, e2, e1, e3⟩ := h hgc
    subst hgc
    have hpp : pall ps := by
      have : ∀ l : List Bool, pall (l.map fun p => !true || p) → pall l := by
        intro l
        induction l with
        | nil => exact fun h => h
        | cons a r ih => intro h; exact ⟨by simpa using h.1, ih h.2⟩
      exact this ps hp
    simp only [Bool.and_eq_true] at hr
    obtain ⟨⟨hr1, hr2⟩, hr3⟩ := hr
    have hm : r.length = m1 := Nat.eq_of_beq_eq_true hr3
    subst hm
    simp only [if_true]
    refine FnAt.le (VsLe.pure _) ?_
    rw [argsG_ok hv hpp, ← e1]
    have hat := FnOk.ren (renRn (n := 0) hr1 hr2) e2 e3 hs1 (subS_at hsub) (obIn_at rfl)
    exact hat
  · simpa using h'
end
end Go.GB


/-
  E13B: chapter 13's functions: the fragments that selections use.
-/
namespace Go.GB.C11
open Go.GB
set_option linter.unusedSimpArgs false
set_option linter.unusedVariables false
set_option maxRecDepth 100000
set_option maxHeartbeats 2000000
variable {P : Program}

def newF (q : Query) (out : List Str) : Nat := q.frags.countP fun f => !decide (f.name ∈ out)
theorem countP_lt {α : Type} {p q : α → Bool} : ∀ {l : List α} {x : α}, x ∈ l → (∀ y, p y = true → q y = true) → q x = true → p x = false → l.countP p < l.countP q
  | [], _, h, _, _, _ => by cases h
  | a :: r, x, h, h1, h2, h3 => by
    simp only [List.countP_cons]
    have hle : r.countP p ≤ r.countP q := List.countP_mono_left fun y _ hy => h1 y hy
    rcases List.mem_cons.1 h with rfl | h
    · rw [h2, h3]; simp; omega
    · have := countP_lt h h1 h2 h3
      have h4 : (if p a = true then 1 else 0) ≤ (if q a = true then 1 else 0) := by
        by_cases hp : p a = true
        · simp [hp, h1 a hp]
        · simp [hp]
      omega
theorem newF_lt {q : Query} {out : List Str} {f : Frag} (hf : f ∈ q.frags) (hn : ¬ f.name ∈ out) : newF q (out ++ [f.name]) < newF q out := by
  unfold newF
  refine countP_lt hf ?_ ?_ ?_
  · intro y hy; simp at hy ⊢; exact hy.1
  · simpa using hn
  · simp
def walkF (q : Query) : Nat → List Sel → List Str → List Str × Bool
  | _, [], out => (out, true)
  | n, s :: r, out =>
    if s.kind = 2 then
      match findFrag s.name q.frags with
      | none => ((walkF q n r out).1, false)
      | some f =>
        if s.name ∈ out then walkF q n r out
        else match n with
          | 0 => (out, true)
          | n' + 1 => ((walkF q (n' + 1) r (walkF q n' f.sels (out ++ [s.name])).1).1, (walkF q n' f.sels (out ++ [s.name])).2 && (walkF q (n' + 1) r (walkF q n' f.sels (out ++ [s.name])).1).2)
    else ((walkF q n r (walkF q n s.sels out).1).1, (walkF q n s.sels out).2 && (walkF q n r (walkF q n s.sels out).1).2)
termination_by n l => (n, SizeOf.sizeOf l)
decreasing_by
  all_goals first
    | (apply Prod.Lex.right; simp only [List.cons.sizeOf_spec]; have := Sel.size_sels s; omega)
    | (apply Prod.Lex.left; omega)
theorem walkF_nil (q : Query) (n : Nat) (out : List Str) : walkF q n [] out = (out, true) := by rw [walkF]
theorem walkF_none {q : Query} {n : Nat} {s : Sel} {r : List Sel} {out : List Str} (h : s.kind = 2) (hf : findFrag s.name q.frags = none) : walkF q n (s :: r) out = ((walkF q n r out).1, false) := by
  rw [walkF, if_pos h, hf]
theorem walkF_in {q : Query} {n : Nat} {s : Sel} {r : List Sel} {out : List Str} {f : Frag} (h : s.kind = 2) (hf : findFrag s.name q.frags = some f) (hi : s.name ∈ out) : walkF q n (s :: r) out = walkF q n r out := by
  rw [walkF, if_pos h, hf]; simp only; rw [if_pos hi]
theorem walkF_new {q : Query} {n : Nat} {s : Sel} {r : List Sel} {out : List Str} {f : Frag} (h : s.kind = 2) (hf : findFrag s.name q.frags = some f) (hi : ¬ s.name ∈ out) : walkF q (n + 1) (s :: r) out = ((walkF q (n + 1) r (walkF q n f.sels (out ++ [s.name])).1).1, (walkF q n f.sels (out ++ [s.name])).2 && (walkF q (n + 1) r (walkF q n f.sels (out ++ [s.name])).1).2) := by
  rw [walkF, if_pos h, hf]; simp only; rw [if_neg hi]
theorem walkF_zero {q : Query} {s : Sel} {r : List Sel} {out : List Str} {f : Frag} (h : s.kind = 2) (hf : findFrag s.name q.frags = some f) (hi : ¬ s.name ∈ out) : walkF q 0 (s :: r) out = (out, true) := by
  rw [walkF, if_pos h, hf]; simp only; rw [if_neg hi]
theorem walkF_sub {q : Query} {n : Nat} {s : Sel} {r : List Sel} {out : List Str} (h : ¬ s.kind = 2) : walkF q n (s :: r) out = ((walkF q n r (walkF q n s.sels out).1).1, (walkF q n s.sels out).2 && (walkF q n r (walkF q n s.sels out).1).2) := by
  rw [walkF, if_neg h]
/-- what a list of names keeps -/
structure WOk (q : Query) (n : Nat) (out : List Str) : Prop where
  n : newF q out ≤ n
  l : out.length + newF q out ≤ q.frags.length
theorem WOk.start (q : Query) : WOk q q.frags.length [] := ⟨by unfold newF; exact List.countP_le_length, by unfold newF; simp⟩
theorem WOk.add {q : Query} {n : Nat} {out : List Str} (h : WOk q (n + 1) out) {s : Str} {f : Frag} (hf : findFrag s q.frags = some f) (hs : ¬ s ∈ out) : WOk q n (out ++ [s]) := by
  have e := findFrag_name hf
  subst e
  have := newF_lt (findFrag_mem hf) hs
  have h1 := h.n
  have h2 := h.l
  exact ⟨by omega, by simp only [List.length_append, List.length_singleton]; omega⟩
theorem WOk.pos {q : Query} {n : Nat} {out : List Str} (h : WOk q n out) {s : Str} {f : Frag} (hf : findFrag s q.frags = some f) (hs : ¬ s ∈ out) : ∃ n', n = n' + 1 := by
  have e := findFrag_name hf
  subst e
  have := newF_lt (findFrag_mem hf) hs
  have h1 := h.n
  exact ⟨n - 1, by omega⟩
/-- walking adds names, each once, and of fragments -/
theorem walkF_ok (q : Query) : ∀ (n : Nat) (l : List Sel) (out : List Str), WOk q n out → WOk q n (walkF q n l out).1 ∧ ∀ x, x ∈ out → x ∈ (walkF q n l out).1
  | n, [], out, h => by rw [walkF_nil]; exact ⟨h, fun _ h => h⟩
  | n, s :: r, out, h => by
    by_cases hk : s.kind = 2
    · cases hf : findFrag s.name q.frags with
      | none => rw [walkF_none hk hf]; exact walkF_ok q n r out h
      | some f =>
        by_cases hi : s.name ∈ out
        · rw [walkF_in hk hf hi]; exact walkF_ok q n r out h
        · match n, h.pos hf hi with
          | n' + 1, _ =>
            rw [walkF_new hk hf hi]
            have h1 := walkF_ok q n' f.sels (out ++ [s.name]) (h.add hf hi)
            have h2 := walkF_ok q (n' + 1) r (walkF q n' f.sels (out ++ [s.name])).1 ⟨by have := h1.1.n; omega, h1.1.l⟩
            exact ⟨h2.1, fun x hx => h2.2 x (h1.2 x (by simp [hx]))⟩
          | 0, e => exact absurd e.choose_spec (by omega)
    · rw [walkF_sub hk]
      have h1 := walkF_ok q n s.sels out h
      have h2 := walkF_ok q n r (walkF q n s.sels out).1 h1.1
      exact ⟨h2.1, fun x hx => h2.2 x (h1.2 x hx)⟩
termination_by n l => (n, SizeOf.sizeOf l)
decreasing_by
  all_goals first
    | (apply Prod.Lex.right; simp only [List.cons.sizeOf_spec]; have := Sel.size_sels s; omega)
    | (apply Prod.Lex.left; omega)

def WalkC (P : Program) (f : FuncId) (q : Query) (n : Nat) (l : List Sel) (out : List Str) : Prop :=
  FnOk P f [q.v, .t (.lst (l.map Sel.enc)), .own 0 1 (out.map sE)] ⟨[(0, .arr out.length)], 1⟩ { v := .tup [.own 0 1 ((walkF q n l out).1.map sE), .t (.bool (walkF q n l out).2)], ob := [(0, .arr (walkF q n l out).1.length)], rd := true }
theorem SelsOk.frag {q : Query} (hq : q.Ok) {n : Str} {f : Frag} (h : findFrag n q.frags = some f) : SelsOk f.sels := (hq.f f (findFrag_mem h)).s

theorem walk_step (H : Pr13 P) (q : Query) (hq : q.Ok) (n : Nat) (l : List Sel) (out : List Str) (hl : SelsOk l) (hw : WOk q n out)
    (ih : ∀ n' l' out', (n' < n ∨ n' = n ∧ SizeOf.sizeOf l' < SizeOf.sizeOf l) → SelsOk l' → WOk q n' out' → WalkC P 71 q n' l' out') : WalkC P 71 q n l out := by
  have hfl := hq.fl
  have hll := hl.1
  have hwl := hw.l
  unfold WalkC
  generalize hW : walkF q n l out = W
  refine FnOk.run H.i71 H.mixed rfl rfl ?_
  refine fR rfl ?_
  refine lM rfl rfl rfl ?_
  refine fM rfl ?_
  refine rList l (fun i (B : List Str × Bool) => { env := [(2, .own 0 1 (B.1.map sE)), (3, .ptr 1 0), (8, .t (.bool B.2)), (15, .t (.lst (l.map Sel.enc))), (16, .t (.int .i64 l.length)), (17, .t (.int .i64 i))], s := ⟨[(0, .arr B.1.length), (1, .cells [.t (.lst (q.ops.map Op.enc)), .t (.lst (q.frags.map Frag.enc))])], 2⟩ }) (fun r i B => WOk q n B.1 ∧ W = ((walkF q n r B.1).1, B.2 && (walkF q n r B.1).2)) 2 (out, true) rfl (by refine ⟨hw, ?_⟩; rw [← hW]; simp) rfl rfl rfl ?_ ?_
  · rintro ⟨B, a⟩ ⟨hB, hinv⟩
    dsimp only at hB hinv ⊢
    rw [walkF_nil] at hinv
    subst hinv
    refine fR rfl ?_
    refine Run.condF rfl rfl (by simp) ?_
    refine fR rfl ?_
    refine Run.fin rfl (EndOk.chg rfl rfl ?_ ?_)
    · exact .tup2 (.le (.same rfl)) (.t (by simp))
    · exact (by repeat' (first | exact trivial | exact LeX.t | exact LeX.top | exact LeX.nilOwn (Nat.le_of_ble_eq_true rfl) (Nat.le_of_ble_eq_true rfl) | exact LeX.ownT | exact LeX.nilT | exact LeX.same rfl | exact LeX.tEq (by simp) | exact LeX.ownEq (by simp) (Nat.le_of_ble_eq_true rfl) | exact LeX.tEq (by congr 1 <;> omega) | exact Or.inr ⟨Nat.le_of_ble_eq_true rfl, Nat.le_of_ble_eq_true rfl, rfl⟩ | refine Or.inl ⟨Nat.le_of_ble_eq_true rfl, _, rfl, ?_⟩ | refine LeO.cells ?_ | exact LeO.arr rfl | exact LeO.arr (by simp) | exact LeO.mE (by first | rfl | simp) (by first | exact Or.inl rfl | exact Or.inr rfl) | exact LeO.cE (by first | rfl | simp) | exact LeXs.cE (by first | rfl | simp) | refine LeO.map (by first | rfl | simp) ?_ (by first | exact Or.inl rfl | exact Or.inr rfl) | exact LeO.iter (by first | rfl | simp) (Nat.le_of_ble_eq_true rfl) | refine LeXs.cons ?_ ?_ | exact LeXs.nil | refine And.intro ?_ ?_))
  · rintro i x r ⟨B, a⟩ h1 hi hd ⟨hB, hinv⟩ ihl
    dsimp only at hB hinv ihl ⊢
    have hxm : x ∈ l := List.mem_of_getElem? h1
    have hx := hl.2 x hxm
    have hBl := hB.l
    have hsz : SizeOf.sizeOf x.sels < SizeOf.sizeOf l := Nat.lt_trans (Sel.size_sels x) (List.sizeOf_lt_of_mem hxm)
    refine fR rfl ?_
    refine Run.condT rfl rfl (by simp; omega) ?_
    refine fR rfl ?_
    refine Mid.elemMapC (Sel.enc_eq x) rfl rfl rfl h1 rfl rfl ?_
    refine fM rfl ?_
    refine Run.cond rfl rfl (fun hk => ?_) (fun hk => ?_)
    · have hk' : x.kind = 2 := by simpa using hk
      refine fR rfl ?_
      refine Mid.call (qfind_ok H q hq x.name) rfl rfl rfl rfl ?_
      refine fM rfl ?_
      cases hf : findFrag x.name q.frags with
      | none =>
        rw [walkF_none hk' hf] at hinv
        refine caG rfl rfl (fun hg => ⟨_, rfl, contains_ok H.toPr B (by omega) x.name, rfl⟩) rfl rfl ?_
        refine fM rfl ?_
        refine Run.condT rfl rfl rfl ?_
        refine fR rfl ?_
        refine aL rfl rfl rfl rfl rfl ?_
        refine fM rfl ?_
        exact rWeak 2 rfl (ihl (B, false) ⟨hB, by rw [hinv]; simp⟩) rfl rfl rfl
      | some f =>
        refine caG rfl rfl (fun hg => ⟨_, rfl, contains_ok H.toPr B (by omega) x.name, rfl⟩) rfl rfl ?_
        refine fM rfl ?_
        refine Run.cond rfl rfl (fun hi => ?_) (fun hi => ?_)
        · have hi' : x.name ∈ B := by simpa using hi
          rw [walkF_in hk' hf hi'] at hinv
          refine fR rfl ?_
          refine aL rfl rfl rfl rfl rfl ?_
          refine fM rfl ?_
          exact rWeak 2 rfl (ihl (B, a) ⟨hB, hinv⟩) rfl rfl rfl
        · have hi' : ¬ x.name ∈ B := by simpa using hi
          obtain ⟨n', rfl⟩ := hB.pos hf hi'
          rw [walkF_new hk' hf hi'] at hinv
          have hadd := hB.add hf hi'
          refine fR rfl ?_
          refine apM sE B [x.name] rfl rfl rfl rfl rfl ?_ (h1 := by first | omega | (simp; omega) | (simp; done)) (h2 := by first | omega | (simp; omega) | (simp; done))
          refine fM rfl ?_
          generalize hV : walkF q n' f.sels (B ++ [x.name]) = V at hinv
          have hV1 := (walkF_ok q n' f.sels (B ++ [x.name]) hadd).1
          rw [hV] at hV1
          have hcall := ih n' f.sels (B ++ [x.name]) (.inl (by omega)) (SelsOk.frag hq hf) hadd
          unfold WalkC at hcall
          rw [hV] at hcall
          refine Mid.callO [0] (hcall) rfl rfl rfl rfl (by simp [stoBd]; simp [AObj.bd]) (by repeat' (first | exact trivial | exact rfl | refine And.intro ?_ ?_ | exact (congrArg some (AObj.ren_mE _ _ _ _ _ _)).symm | exact (congrArg some (AObj.ren_cE _ _ _)).symm)) rfl rfl (ob' := [(0, .arr V.1.length)]) (rfl) rfl rfl ?_
          refine fM rfl ?_
          refine aL rfl rfl rfl rfl rfl ?_
          refine fM rfl ?_
          exact rWeak 2 rfl (ihl (V.1, a && V.2) ⟨⟨by have := hV1.n; show newF q V.1 ≤ n' + 1; omega, hV1.l⟩, by rw [hinv]; simp [Bool.and_assoc]⟩) rfl rfl rfl
    · have hk' : ¬ x.kind = 2 := by simpa using hk
      rw [walkF_sub hk'] at hinv
      refine fR rfl ?_
      generalize hV : walkF q n x.sels B = V at hinv
      have hV1 := (walkF_ok q n x.sels B hB).1
      rw [hV] at hV1
      have hcall := ih n x.sels B (.inr ⟨rfl, hsz⟩) (SelsOk.sub hx) hB
      unfold WalkC at hcall
      rw [hV] at hcall
      refine Mid.callO [0] (hcall) rfl rfl rfl rfl (by simp [stoBd]; simp [AObj.bd]) (by repeat' (first | exact trivial | exact rfl | refine And.intro ?_ ?_ | exact (congrArg some (AObj.ren_mE _ _ _ _ _ _)).symm | exact (congrArg some (AObj.ren_cE _ _ _)).symm)) rfl rfl (ob' := [(0, .arr V.1.length)]) (rfl) rfl rfl ?_
      refine fM rfl ?_
      refine aL rfl rfl rfl rfl rfl ?_
      refine fM rfl ?_
      exact rWeak 2 rfl (ihl (V.1, a && V.2) ⟨hV1, by rw [hinv]; simp [Bool.and_assoc]⟩) rfl rfl rfl
theorem walk_ok (H : Pr13 P) (q : Query) (hq : q.Ok) (n : Nat) (l : List Sel) (out : List Str) (hl : SelsOk l) (hw : WOk q n out) : WalkC P 71 q n l out :=
  walk_step H q hq n l out hl hw fun n' l' out' h hl' hw' => walk_ok H q hq n' l' out' hl' hw'
termination_by (n, SizeOf.sizeOf l)
decreasing_by
  rcases h with h | ⟨h1, h2⟩
  · exact Prod.Lex.left _ _ h
  · subst h1; exact Prod.Lex.right _ h2
theorem visit_step (H : Pr13 P) (q : Query) (hq : q.Ok) (n : Nat) (l : List Sel) (out : List Str) (hl : SelsOk l) (hw : WOk q n out)
    (ih : ∀ n' l' out', (n' < n ∨ n' = n ∧ SizeOf.sizeOf l' < SizeOf.sizeOf l) → SelsOk l' → WOk q n' out' → WalkC P 73 q n' l' out') : WalkC P 73 q n l out := by
  have hfl := hq.fl
  have hll := hl.1
  have hwl := hw.l
  unfold WalkC
  generalize hW : walkF q n l out = W
  refine FnOk.run H.i73 H.mixed rfl rfl ?_
  refine fR rfl ?_
  refine rList l (fun i (B : List Str × Bool) => { env := [(1, .t (.lst (l.map Sel.enc))), (2, .own 0 1 (B.1.map sE)), (3, .ptr 1 0), (8, .t (.bool B.2)), (9, .t (.int .i64 i))], s := ⟨[(0, .arr B.1.length), (1, .cells [.t (.lst (q.ops.map Op.enc)), .t (.lst (q.frags.map Frag.enc))])], 2⟩ }) (fun r i B => WOk q n B.1 ∧ W = ((walkF q n r B.1).1, B.2 && (walkF q n r B.1).2)) 2 (out, true) rfl (by refine ⟨hw, ?_⟩; rw [← hW]; simp) rfl rfl rfl ?_ ?_
  · rintro ⟨B, a⟩ ⟨hB, hinv⟩
    dsimp only at hB hinv ⊢
    rw [walkF_nil] at hinv
    subst hinv
    refine fR rfl ?_
    refine lM rfl rfl rfl ?_
    refine fM rfl ?_
    refine Run.condF rfl rfl (by simp) ?_
    refine fR rfl ?_
    refine Run.fin rfl (EndOk.chg rfl rfl ?_ ?_)
    · exact .tup2 (.le (.same rfl)) (.t (by simp))
    · exact (by repeat' (first | exact trivial | exact LeX.t | exact LeX.top | exact LeX.nilOwn (Nat.le_of_ble_eq_true rfl) (Nat.le_of_ble_eq_true rfl) | exact LeX.ownT | exact LeX.nilT | exact LeX.same rfl | exact LeX.tEq (by simp) | exact LeX.ownEq (by simp) (Nat.le_of_ble_eq_true rfl) | exact LeX.tEq (by congr 1 <;> omega) | exact Or.inr ⟨Nat.le_of_ble_eq_true rfl, Nat.le_of_ble_eq_true rfl, rfl⟩ | refine Or.inl ⟨Nat.le_of_ble_eq_true rfl, _, rfl, ?_⟩ | refine LeO.cells ?_ | exact LeO.arr rfl | exact LeO.arr (by simp) | exact LeO.mE (by first | rfl | simp) (by first | exact Or.inl rfl | exact Or.inr rfl) | exact LeO.cE (by first | rfl | simp) | exact LeXs.cE (by first | rfl | simp) | refine LeO.map (by first | rfl | simp) ?_ (by first | exact Or.inl rfl | exact Or.inr rfl) | exact LeO.iter (by first | rfl | simp) (Nat.le_of_ble_eq_true rfl) | refine LeXs.cons ?_ ?_ | exact LeXs.nil | refine And.intro ?_ ?_))
  · rintro i x r ⟨B, a⟩ h1 hi hd ⟨hB, hinv⟩ ihl
    dsimp only at hB hinv ihl ⊢
    have hxm : x ∈ l := List.mem_of_getElem? h1
    have hx := hl.2 x hxm
    have hBl := hB.l
    have hsz : SizeOf.sizeOf x.sels < SizeOf.sizeOf l := Nat.lt_trans (Sel.size_sels x) (List.sizeOf_lt_of_mem hxm)
    refine fR rfl ?_
    refine lM rfl rfl rfl ?_
    refine fM rfl ?_
    refine Run.condT rfl rfl (by simp; omega) ?_
    refine fR rfl ?_
    refine Mid.elemMapC (Sel.enc_eq x) rfl rfl rfl h1 rfl rfl ?_
    refine fM rfl ?_
    refine Mid.elemMapC (Sel.enc_eq x) rfl rfl rfl h1 rfl rfl ?_
    refine fM rfl ?_
    refine Run.cond rfl rfl (fun hk => ?_) (fun hk => ?_)
    · have hk' : x.kind = 2 := by simpa using hk
      refine fR rfl ?_
      refine Mid.elemMapC (Sel.enc_eq x) rfl rfl rfl h1 rfl rfl ?_
      refine fM rfl ?_
      refine Mid.call (rqfind_ok H q hq x.name) rfl rfl rfl rfl ?_
      refine fM rfl ?_
      cases hf : findFrag x.name q.frags with
      | none =>
        rw [walkF_none hk' hf] at hinv
        refine Run.condT rfl rfl rfl ?_
        refine fR rfl ?_
        refine caG rfl rfl (fun hg => ⟨_, rfl, has13_ok H B (by omega) Frag.zero.name, rfl⟩) rfl rfl ?_
        refine fM rfl ?_
        refine Run.condT rfl rfl rfl ?_
        refine fR rfl ?_
        refine aL rfl rfl rfl rfl rfl ?_
        refine fM rfl ?_
        exact rWeak 2 rfl (ihl (B, false) ⟨hB, by rw [hinv]; simp⟩) rfl rfl rfl
      | some f =>
        have hfn := findFrag_name hf
        refine Run.condF rfl rfl rfl ?_
        refine fR rfl ?_
        refine caG rfl rfl (fun hg => ⟨_, rfl, has13_ok H B (by omega) f.name, rfl⟩) rfl rfl ?_
        refine fM rfl ?_
        refine Run.cond rfl rfl (fun hi => ?_) (fun hi => ?_)
        · have hi' : x.name ∈ B := by rw [← hfn]; simpa using hi
          rw [walkF_in hk' hf hi'] at hinv
          refine fR rfl ?_
          refine aL rfl rfl rfl rfl rfl ?_
          refine fM rfl ?_
          exact rWeak 2 rfl (ihl (B, a) ⟨hB, hinv⟩) rfl rfl rfl
        · have hi' : ¬ x.name ∈ B := by rw [← hfn]; simpa using hi
          obtain ⟨n', rfl⟩ := hB.pos hf hi'
          rw [walkF_new hk' hf hi', ← hfn] at hinv
          have hadd := hB.add hf hi'
          rw [← hfn] at hadd
          refine fR rfl ?_
          refine apM sE B [f.name] rfl rfl rfl rfl rfl ?_ (h1 := by first | omega | (simp; omega) | (simp; done)) (h2 := by first | omega | (simp; omega) | (simp; done))
          refine fM rfl ?_
          generalize hV : walkF q n' f.sels (B ++ [f.name]) = V at hinv
          have hV1 := (walkF_ok q n' f.sels (B ++ [f.name]) hadd).1
          rw [hV] at hV1
          have hcall := ih n' f.sels (B ++ [f.name]) (.inl (by omega)) (SelsOk.frag hq hf) hadd
          unfold WalkC at hcall
          rw [hV] at hcall
          refine Mid.callO [0] (hcall) rfl rfl rfl rfl (by simp [stoBd]; simp [AObj.bd]) (by repeat' (first | exact trivial | exact rfl | refine And.intro ?_ ?_ | exact (congrArg some (AObj.ren_mE _ _ _ _ _ _)).symm | exact (congrArg some (AObj.ren_cE _ _ _)).symm)) rfl rfl (ob' := [(0, .arr V.1.length)]) (rfl) rfl rfl ?_
          refine fM rfl ?_
          refine aL rfl rfl rfl rfl rfl ?_
          refine fM rfl ?_
          exact rWeak 2 rfl (ihl (V.1, a && V.2) ⟨⟨by have := hV1.n; show newF q V.1 ≤ n' + 1; omega, hV1.l⟩, by rw [hinv]; simp [Bool.and_assoc]⟩) rfl rfl rfl
    · have hk' : ¬ x.kind = 2 := by simpa using hk
      rw [walkF_sub hk'] at hinv
      refine fR rfl ?_
      generalize hV : walkF q n x.sels B = V at hinv
      have hV1 := (walkF_ok q n x.sels B hB).1
      rw [hV] at hV1
      have hcall := ih n x.sels B (.inr ⟨rfl, hsz⟩) (SelsOk.sub hx) hB
      unfold WalkC at hcall
      rw [hV] at hcall
      refine Mid.callO [0] (hcall) rfl rfl rfl rfl (by simp [stoBd]; simp [AObj.bd]) (by repeat' (first | exact trivial | exact rfl | refine And.intro ?_ ?_ | exact (congrArg some (AObj.ren_mE _ _ _ _ _ _)).symm | exact (congrArg some (AObj.ren_cE _ _ _)).symm)) rfl rfl (ob' := [(0, .arr V.1.length)]) (rfl) rfl rfl ?_
      refine fM rfl ?_
      refine aL rfl rfl rfl rfl rfl ?_
      refine fM rfl ?_
      exact rWeak 2 rfl (ihl (V.1, a && V.2) ⟨hV1, by rw [hinv]; simp [Bool.and_assoc]⟩) rfl rfl rfl
theorem visit_ok (H : Pr13 P) (q : Query) (hq : q.Ok) (n : Nat) (l : List Sel) (out : List Str) (hl : SelsOk l) (hw : WOk q n out) : WalkC P 73 q n l out :=
  visit_step H q hq n l out hl hw fun n' l' out' h hl' hw' => visit_ok H q hq n' l' out' hl' hw'
termination_by (n, SizeOf.sizeOf l)
decreasing_by
  rcases h with h | ⟨h1, h2⟩
  · exact Prod.Lex.left _ _ h
  · subst h1; exact Prod.Lex.right _ h2
/-- the fragments that selections use, and whether all exist -/
def wF (q : Query) (l : List Sel) : List Str × Bool := walkF q q.frags.length l []
theorem WalkC.nil {f : FuncId} {q : Query} {l : List Sel} (h : WalkC P f q q.frags.length l []) : FnOk P f [q.v, .t (.lst (l.map Sel.enc)), .nils] ⟨[], 0⟩ { v := .tup [.own 0 1 ((wF q l).1.map sE), .t (.bool (wF q l).2)], ob := [(0, .arr (wF q l).1.length)], n := 1, rd := true } :=
  h.wk (by decide) (.cons (.same rfl) (.cons (.same rfl) (.cons (.nilOwn (Nat.le_refl _) (by decide)) .nil))) (by simp [LeS]) rfl rfl rfl
theorem wF_len (q : Query) (l : List Sel) : (wF q l).1.length ≤ q.frags.length := by
  have := (walkF_ok q q.frags.length l [] (WOk.start q)).1.l
  unfold wF; omega
def loopF (q : Query) (f : Frag) : Bool := decide (f.name ∈ (wF q f.sels).1)
theorem loops_ok (H : Pr13 P) (q : Query) (hq : q.Ok) (f : Frag) (hf : f.Ok) : FnOk P 72 [q.v, f.v] ⟨[], 0⟩ { v := .t (.bool (loopF q f)) } := by
  have hfl := hq.fl
  have hl := wF_len q f.sels
  refine FnOk.run H.i72 H.mixed rfl rfl ?_
  refine fR rfl ?_
  refine Mid.callO [] ((walk_ok H q hq q.frags.length f.sels [] hf.s (WOk.start q)).nil) rfl rfl rfl rfl (by simp [stoBd]) (by repeat' (first | exact trivial | exact rfl | refine And.intro ?_ ?_ | exact (congrArg some (AObj.ren_mE _ _ _ _ _ _)).symm | exact (congrArg some (AObj.ren_cE _ _ _)).symm)) rfl rfl (ob' := [(2, .arr (wF q f.sels).1.length)]) (rfl) rfl rfl ?_
  refine fM rfl ?_
  refine Mid.call (contains_ok H.toPr (wF q f.sels).1 (by omega) f.name) rfl rfl rfl rfl ?_
  refine fM rfl ?_
  refine Run.fin rfl (EndOk.go ?_); exact .t rfl
theorem circular13_ok (H : Pr13 P) (q : Query) (hq : q.Ok) (f : Frag) (hf : f.Ok) : FnOk P 74 [q.v, f.v] ⟨[], 0⟩ { v := .t (.bool (loopF q f)) } := by
  have hfl := hq.fl
  have hl := wF_len q f.sels
  refine FnOk.run H.i74 H.mixed rfl rfl ?_
  refine fR rfl ?_
  refine Mid.callO [] ((visit_ok H q hq q.frags.length f.sels [] hf.s (WOk.start q)).nil) rfl rfl rfl rfl (by simp [stoBd]) (by repeat' (first | exact trivial | exact rfl | refine And.intro ?_ ?_ | exact (congrArg some (AObj.ren_mE _ _ _ _ _ _)).symm | exact (congrArg some (AObj.ren_cE _ _ _)).symm)) rfl rfl (ob' := [(2, .arr (wF q f.sels).1.length)]) (rfl) rfl rfl ?_
  refine fM rfl ?_
  refine Mid.call (has13_ok H (wF q f.sels).1 (by omega) f.name) rfl rfl rfl rfl ?_
  refine fM rfl ?_
  refine Run.fin rfl (EndOk.go ?_); exact .t rfl
/-- Reach -/
def reachB (q : Query) (l : List Sel) : Bool := (wF q l).2 && (wF q l).1.all fun n => !loopF q ((findFrag n q.frags).getD Frag.zero)
theorem reach_ok (H : Pr13 P) (q : Query) (hq : q.Ok) (l : List Sel) (hl : SelsOk l) : FnOk P 34 [q.v, .t (.lst (l.map Sel.enc))] ⟨[], 0⟩ { v := .tup [.t (.lst ((wF q l).1.map sE)), .t (.bool (reachB q l))] } := by
  have hfl := hq.fl
  have hw := wF_len q l
  have hR : ∀ R, reachB q l = R → FnOk P 34 [q.v, .t (.lst (l.map Sel.enc))] ⟨[], 0⟩ { v := .tup [.t (.lst ((wF q l).1.map sE)), .t (.bool R)] } := by
    intro R hR
    unfold reachB at hR
    refine FnOk.run H.i34 H.mixed rfl rfl ?_
    refine fR rfl ?_
    refine Mid.callO [] ((walk_ok H q hq q.frags.length l [] hl (WOk.start q)).nil) rfl rfl rfl rfl (by simp [stoBd]) (by repeat' (first | exact trivial | exact rfl | refine And.intro ?_ ?_ | exact (congrArg some (AObj.ren_mE _ _ _ _ _ _)).symm | exact (congrArg some (AObj.ren_cE _ _ _)).symm)) rfl rfl (ob' := [(1, .arr (wF q l).1.length)]) (rfl) rfl rfl ?_
    refine fM rfl ?_
    refine lM rfl rfl rfl ?_
    refine fM rfl ?_
    generalize wF q l = W at hR hw
    refine rList W.1 (fun i (B : Bool) => { env := [(2, .ptr 0 0), (6, .t (.lst (W.1.map sE))), (7, .t (.bool B)), (18, .t (.lst (W.1.map sE))), (19, .t (.int .i64 W.1.length)), (20, .t (.int .i64 i))], s := ⟨[(0, .cells [.t (.lst (q.ops.map Op.enc)), .t (.lst (q.frags.map Frag.enc))])], 1⟩ }) (fun r i B => (B && r.all fun n => !loopF q ((findFrag n q.frags).getD Frag.zero)) = R) 1 W.2 rfl hR rfl rfl rfl ?_ ?_
    · rintro B hB
      refine fR rfl ?_
      refine Run.condF rfl rfl (by simp) ?_
      refine fR rfl ?_
      refine Run.fin rfl (EndOk.go ?_); exact .tup2 (.t rfl) (.t (by rw [← hB]; simp))
    · rintro i x r B h1 hi hd hB ih
      refine fR rfl ?_
      refine Run.condT rfl rfl (by simp; omega) ?_
      refine fR rfl ?_
      refine Mid.elemMap rfl rfl rfl h1 rfl rfl ?_
      refine fM rfl ?_
      refine Mid.call (qfind_ok H q hq x) rfl rfl rfl rfl ?_
      refine fM rfl ?_
      refine caG rfl rfl (fun hg => ⟨_, rfl, loops_ok H q hq ((findFrag x q.frags).getD Frag.zero) (fragOk hq x), rfl⟩) rfl rfl ?_
      refine fM rfl ?_
      refine aL rfl rfl rfl rfl rfl ?_
      refine fM rfl ?_
      exact rWeak 1 rfl (ih (B && !loopF q ((findFrag x q.frags).getD Frag.zero)) (by rw [← hB]; simp [Bool.and_assoc])) rfl rfl rfl
  exact hR _ rfl
theorem rReach_ok (H : Pr13 P) (q : Query) (hq : q.Ok) (l : List Sel) (hl : SelsOk l) : FnOk P 35 [q.v, .t (.lst (l.map Sel.enc))] ⟨[], 0⟩ { v := .tup [.t (.lst ((wF q l).1.map sE)), .t (.bool (reachB q l))] } := by
  have hfl := hq.fl
  have hw := wF_len q l
  have hR : ∀ R, reachB q l = R → FnOk P 35 [q.v, .t (.lst (l.map Sel.enc))] ⟨[], 0⟩ { v := .tup [.t (.lst ((wF q l).1.map sE)), .t (.bool R)] } := by
    intro R hR
    unfold reachB at hR
    refine FnOk.run H.i35 H.mixed rfl rfl ?_
    refine fR rfl ?_
    refine Mid.callO [] ((visit_ok H q hq q.frags.length l [] hl (WOk.start q)).nil) rfl rfl rfl rfl (by simp [stoBd]) (by repeat' (first | exact trivial | exact rfl | refine And.intro ?_ ?_ | exact (congrArg some (AObj.ren_mE _ _ _ _ _ _)).symm | exact (congrArg some (AObj.ren_cE _ _ _)).symm)) rfl rfl (ob' := [(1, .arr (wF q l).1.length)]) (rfl) rfl rfl ?_
    refine fM rfl ?_
    generalize wF q l = W at hR hw
    refine rList W.1 (fun i (B : Bool) => { env := [(2, .ptr 0 0), (6, .t (.lst (W.1.map sE))), (7, .t (.bool B)), (8, .t (.int .i64 i))], s := ⟨[(0, .cells [.t (.lst (q.ops.map Op.enc)), .t (.lst (q.frags.map Frag.enc))])], 1⟩ }) (fun r i B => (B && r.all fun n => !loopF q ((findFrag n q.frags).getD Frag.zero)) = R) 1 W.2 rfl hR rfl rfl rfl ?_ ?_
    · rintro B hB
      refine fR rfl ?_
      refine lM rfl rfl rfl ?_
      refine fM rfl ?_
      refine Run.condF rfl rfl (by simp) ?_
      refine fR rfl ?_
      refine Run.fin rfl (EndOk.go ?_); exact .tup2 (.t rfl) (.t (by rw [← hB]; simp))
    · rintro i x r B h1 hi hd hB ih
      refine fR rfl ?_
      refine lM rfl rfl rfl ?_
      refine fM rfl ?_
      refine Run.condT rfl rfl (by simp; omega) ?_
      refine fR rfl ?_
      refine Mid.elemMap rfl rfl rfl h1 rfl rfl ?_
      refine fM rfl ?_
      refine Mid.call (rqfind_ok H q hq x) rfl rfl rfl rfl ?_
      refine fM rfl ?_
      refine Mid.call (circular13_ok H q hq ((findFrag x q.frags).getD Frag.zero) (fragOk hq x)) rfl rfl rfl rfl ?_
      refine fM rfl ?_
      refine Run.cond rfl rfl (fun hc => ?_) (fun hc => ?_)
      · refine fR rfl ?_
        refine aL rfl rfl rfl rfl rfl ?_
        refine fM rfl ?_
        exact rWeak 1 rfl (ih false (by rw [← hB]; simp [hc])) rfl rfl rfl
      · refine fR rfl ?_
        refine aL rfl rfl rfl rfl rfl ?_
        refine fM rfl ?_
        exact rWeak 1 rfl (ih B (by rw [← hB]; simp [hc])) rfl rfl rfl
  exact hR _ rfl
end Go.GB.C11


/-
  E13C: chapter 13's functions: composite types, places, violations.
-/
namespace Go.GB.C11
open Go.GB
set_option linter.unusedSimpArgs false
set_option linter.unusedVariables false
set_option maxRecDepth 100000
set_option maxHeartbeats 2000000
variable {P : Program}

def kindF (ds : List Def) (n : Str) : Int := ((findDef n ds).getD Def.zero).kind
def cmpK (k : Int) : Bool := k == 1 || k == 2 || k == 3
def compF (ds : List Def) (n : Str) : Bool := !scalF n && cmpK (kindF ds n)
theorem kind_ok (H : Pr13 P) (ds : List Def) (hD : DocOk ds) (n : Str) : FnOk P 135 [docV ds, .t (.str n)] ⟨[], 0⟩ { v := .t (.int .i64 (kindF ds n)) } := by
  refine FnOk.run H.i135 H.mixed rfl rfl ?_
  refine fR rfl ?_
  refine Mid.call (find_ok H.toPr ds hD.l n) rfl rfl rfl rfl ?_
  refine fM rfl ?_
  refine Run.fin rfl (EndOk.go ?_); exact .t rfl
theorem composite_ok (H : Pr13 P) (ds : List Def) (hD : DocOk ds) (n : Str) : FnOk P 80 [docV ds, .t (.str n)] ⟨[], 0⟩ { v := .t (.bool (compF ds n)) } := by
  refine FnOk.run H.i80 H.mixed rfl rfl ?_
  refine fR rfl ?_
  refine Mid.call (kind_ok H ds hD n) rfl rfl rfl rfl ?_
  refine fM rfl ?_
  refine Mid.call (scalar_ok H.toPr n) rfl rfl rfl rfl ?_
  refine fM rfl ?_
  refine Run.fin rfl (EndOk.go ?_); exact .t rfl
theorem compF_some (ds : List Def) (n : Str) : ((!scalF n && (findDef n ds).isSome) && cmpK (kindF ds n)) = compF ds n := by
  unfold compF kindF
  cases findDef n ds with
  | none => simp [cmpK, Def.zero]
  | some d => simp
theorem rComposite_ok (H : Pr13 P) (ds : List Def) (hD : DocOk ds) (n : Str) : FnOk P 43 [docV ds, .t (.str n)] ⟨[], 0⟩ { v := .t (.bool (compF ds n)) } := by
  refine FnOk.run H.i43 H.mixed rfl rfl ?_
  refine fR rfl ?_
  refine Mid.call (rFind_ok H.toPr ds hD.l n) rfl rfl rfl rfl ?_
  refine fM rfl ?_
  refine Mid.call (rScalar_ok H.toPr n) rfl rfl rfl rfl ?_
  refine fM rfl ?_
  refine Run.fin rfl (EndOk.go ?_); exact .t (by rw [← compF_some]; rfl)
def apF (ds : List Def) (a b : Str) : Bool := compF ds a && !ovF ds a b
theorem apart_ok (H : Pr13 P) (ds : List Def) (hD : DocOk ds) (q : Query) (out : List Fault) (a b : Str) : FnOk P 133 [.ptr 0 0, .t (.str a), .t (.str b)] ⟨[(0, .cells [.t (.lst (ds.map Def.enc)), .t (.lst (q.ops.map Op.enc)), .t (.lst (q.frags.map Frag.enc)), .own 1 2 (out.map Fault.enc)]), (1, .arr out.length)], 2⟩ { v := .t (.bool (apF ds a b)), rd := true } := by
  refine FnOk.run H.i133 H.mixed rfl rfl ?_
  refine fR rfl ?_
  refine Mid.call (composite_ok H ds hD a) rfl rfl rfl rfl ?_
  refine fM rfl ?_
  refine caG rfl rfl (fun hg => ⟨_, rfl, overlap_ok H.toPr ds hD a b, rfl⟩) rfl rfl ?_
  refine fM rfl ?_
  refine Run.fin rfl (EndOk.sameX rfl rfl rfl (by first | exact rfl | exact nSto_bd | exact tSto_bd) (.t ((by rfl))))
theorem add13T_ok (H : Pr13 P) (ds : List Def) (q : Query) (out : List Fault) (hl : out.length ≤ 4398046511104) (e : Int) (a : Str) : FnOk P 79 [.ptr 0 0, .t (.bool true), .t (.int .i64 e), .t (.str a)] ⟨[(0, .cells [.t (.lst (ds.map Def.enc)), .t (.lst (q.ops.map Op.enc)), .t (.lst (q.frags.map Frag.enc)), .own 1 2 (out.map Fault.enc)]), (1, .arr out.length)], 2⟩ { v := .tup [], ob := [(0, .cells [.t (.lst (ds.map Def.enc)), .t (.lst (q.ops.map Op.enc)), .t (.lst (q.frags.map Frag.enc)), .own 1 2 ((out ++ [(⟨e, a⟩ : Fault)]).map Fault.enc)]), (1, .arr (out ++ [(⟨e, a⟩ : Fault)]).length)], rd := true } := by
  refine FnOk.run H.i79 H.mixed rfl rfl ?_
  refine fR rfl ?_
  refine Run.condT rfl rfl rfl ?_
  refine fR rfl ?_
  refine apM Fault.enc out [(⟨e, a⟩ : Fault)] rfl rfl rfl rfl rfl ?_ (h1 := by first | omega | (simp; omega) | (simp; done)) (h2 := by first | omega | (simp; omega) | (simp; done))
  refine fM rfl ?_
  refine Run.fin rfl (EndOk.chg rfl rfl ?_ ?_)
  · exact .le (.same rfl)
  · exact (by repeat' (first | exact trivial | exact LeX.t | exact LeX.top | exact LeX.nilOwn (Nat.le_of_ble_eq_true rfl) (Nat.le_of_ble_eq_true rfl) | exact LeX.ownT | exact LeX.nilT | exact LeX.same rfl | exact LeX.tEq (by simp) | exact LeX.ownEq (by simp) (Nat.le_of_ble_eq_true rfl) | exact LeX.tEq (by congr 1 <;> omega) | exact Or.inr ⟨Nat.le_of_ble_eq_true rfl, Nat.le_of_ble_eq_true rfl, rfl⟩ | refine Or.inl ⟨Nat.le_of_ble_eq_true rfl, _, rfl, ?_⟩ | refine LeO.cells ?_ | exact LeO.arr rfl | exact LeO.arr (by simp) | exact LeO.mE (by first | rfl | simp) (by first | exact Or.inl rfl | exact Or.inr rfl) | exact LeO.cE (by first | rfl | simp) | exact LeXs.cE (by first | rfl | simp) | refine LeO.map (by first | rfl | simp) ?_ (by first | exact Or.inl rfl | exact Or.inr rfl) | exact LeO.iter (by first | rfl | simp) (Nat.le_of_ble_eq_true rfl) | refine LeXs.cons ?_ ?_ | exact LeXs.nil | refine And.intro ?_ ?_))
theorem add13F_ok (H : Pr13 P) (ds : List Def) (q : Query) (out : List Fault) (e : Int) (a : Str) : FnOk P 79 [.ptr 0 0, .t (.bool false), .t (.int .i64 e), .t (.str a)] ⟨[(0, .cells [.t (.lst (ds.map Def.enc)), .t (.lst (q.ops.map Op.enc)), .t (.lst (q.frags.map Frag.enc)), .own 1 2 (out.map Fault.enc)]), (1, .arr out.length)], 2⟩ { v := .tup [], ob := [(0, .cells [.t (.lst (ds.map Def.enc)), .t (.lst (q.ops.map Op.enc)), .t (.lst (q.frags.map Frag.enc)), .own 1 2 (out.map Fault.enc)]), (1, .arr out.length)], rd := true } := by
  refine FnOk.run H.i79 H.mixed rfl rfl ?_
  refine fR rfl ?_
  refine Run.condF rfl rfl rfl ?_
  skip
  refine Run.fin rfl (EndOk.chg rfl rfl ?_ ?_)
  · exact .le (.same rfl)
  · exact (by repeat' (first | exact trivial | exact LeX.t | exact LeX.top | exact LeX.nilOwn (Nat.le_of_ble_eq_true rfl) (Nat.le_of_ble_eq_true rfl) | exact LeX.ownT | exact LeX.nilT | exact LeX.same rfl | exact LeX.tEq (by simp) | exact LeX.ownEq (by simp) (Nat.le_of_ble_eq_true rfl) | exact LeX.tEq (by congr 1 <;> omega) | exact Or.inr ⟨Nat.le_of_ble_eq_true rfl, Nat.le_of_ble_eq_true rfl, rfl⟩ | refine Or.inl ⟨Nat.le_of_ble_eq_true rfl, _, rfl, ?_⟩ | refine LeO.cells ?_ | exact LeO.arr rfl | exact LeO.arr (by simp) | exact LeO.mE (by first | rfl | simp) (by first | exact Or.inl rfl | exact Or.inr rfl) | exact LeO.cE (by first | rfl | simp) | exact LeXs.cE (by first | rfl | simp) | refine LeO.map (by first | rfl | simp) ?_ (by first | exact Or.inl rfl | exact Or.inr rfl) | exact LeO.iter (by first | rfl | simp) (Nat.le_of_ble_eq_true rfl) | refine LeXs.cons ?_ ?_ | exact LeXs.nil | refine And.intro ?_ ?_))
def ifL (c : Bool) (x : Fault) : List Fault := if c then [x] else []
theorem add13_ok (H : Pr13 P) (ds : List Def) (q : Query) (out : List Fault) (c : Bool) (e : Int) (a : Str) (hl : out.length ≤ 4398046511104) : FnOk P 79 [.ptr 0 0, .t (.bool c), .t (.int .i64 e), .t (.str a)] ⟨[(0, .cells [.t (.lst (ds.map Def.enc)), .t (.lst (q.ops.map Op.enc)), .t (.lst (q.frags.map Frag.enc)), .own 1 2 (out.map Fault.enc)]), (1, .arr out.length)], 2⟩ { v := .tup [], ob := [(0, .cells [.t (.lst (ds.map Def.enc)), .t (.lst (q.ops.map Op.enc)), .t (.lst (q.frags.map Frag.enc)), .own 1 2 ((out ++ ifL c ⟨e, a⟩).map Fault.enc)]), (1, .arr (out ++ ifL c ⟨e, a⟩).length)], rd := true } := by
  cases c with
  | true => exact add13T_ok H ds q out hl e a
  | false => rw [show out ++ ifL false ⟨e, a⟩ = out from List.append_nil _]; exact add13F_ok H ds q out e a
def keyF (s : Sel) : Str := if s.ali = [] then s.name else s.ali
def rootF (k : Int) : Str := if k = 1 then [81, 117, 101, 114, 121] else if k = 2 then [77, 117, 116, 97, 116, 105, 111, 110] else if k = 3 then [83, 117, 98, 115, 99, 114, 105, 112, 116, 105, 111, 110] else []
theorem root_step (f : FuncId) (hi : fnInfo P f = some (n78, c78.bare, r78)) (hm : P.follows .mixedOrders = true) (k : Int) : FnOk P f [.t (.int .i64 k)] ⟨[], 0⟩ { v := .t (.str (rootF k)) } := by
  refine FnOk.run hi hm rfl rfl ?_
  refine fR rfl ?_
  refine Run.cond rfl rfl (fun h1 => ?_) (fun h1 => ?_)
  · have h' : k = 1 := by simpa using h1
    refine fR rfl ?_
    refine Run.fin rfl (EndOk.go ?_); exact .t (by unfold rootF; rw [if_pos h'])
  · have h1' : ¬ k = 1 := by simpa using h1
    refine fR rfl ?_
    refine Run.cond rfl rfl (fun h2 => ?_) (fun h2 => ?_)
    · have h' : k = 2 := by simpa using h2
      refine fR rfl ?_
      refine Run.fin rfl (EndOk.go ?_); exact .t (by unfold rootF; rw [if_neg h1', if_pos h'])
    · have h2' : ¬ k = 2 := by simpa using h2
      refine fR rfl ?_
      refine Run.cond rfl rfl (fun h3 => ?_) (fun h3 => ?_)
      · have h' : k = 3 := by simpa using h3
        refine fR rfl ?_
        refine Run.fin rfl (EndOk.go ?_); exact .t (by unfold rootF; rw [if_neg h1', if_neg h2', if_pos h'])
      · have h' : ¬ k = 3 := by simpa using h3
        refine fR rfl ?_
        refine Run.fin rfl (EndOk.go ?_); exact .t (by unfold rootF; rw [if_neg h1', if_neg h2', if_neg h'])
theorem root_ok (H : Pr13 P) (k : Int) : FnOk P 78 [.t (.int .i64 k)] ⟨[], 0⟩ { v := .t (.str (rootF k)) } := root_step 78 H.i78 H.mixed k
def usedF (q : Query) (n : Str) : Bool := q.ops.any fun o => decide (n ∈ (wF q o.sels).1)
end Go.GB.C11


/-
  E13D: chapter 13's functions: violations of selections.
-/
namespace Go.GB
mutual
def Sel.w : Sel → Nat
  | .mk _ a n _ _ _ ss => 2 + a.length + n.length + Sel.ws ss
def Sel.ws : List Sel → Nat
  | [] => 0
  | x :: r => x.w + Sel.ws r
end
theorem Sel.w_eq (s : Sel) : s.w = 2 + s.ali.length + s.name.length + Sel.ws s.sels := by cases s; simp only [Sel.w, Sel.ali, Sel.name, Sel.sels]
theorem Sel.ws_mem : ∀ {l : List Sel} {x : Sel}, x ∈ l → x.w ≤ Sel.ws l
  | [], x, h => by cases h
  | y :: r, x, h => by
    simp only [Sel.ws]
    rcases List.mem_cons.1 h with rfl | h
    · omega
    · have := Sel.ws_mem h; omega
end Go.GB
namespace Go.GB.C11
open Go.GB
set_option linter.unusedSimpArgs false
set_option linter.unusedVariables false
set_option maxRecDepth 100000
set_option maxHeartbeats 4000000
variable {P : Program}

def innF (ds : List Def) (on n : Str) : Str :=
  if ((findDef on ds).isSome && compF ds on) = true then (if (findField n ((findDef on ds).getD Def.zero).fields).isSome = true then ((findField n ((findDef on ds).getD Def.zero).fields).getD Field.zero).ty.name else []) else []
def selF (ds : List Def) (q : Query) : List Sel → Str → Str → List Fault
  | [], _, _ => []
  | s :: r, on, at_ =>
    (if s.kind = 2 then ifL (!(findFrag s.name q.frags).isSome) ⟨24, at_⟩ ++ ifL (((findFrag s.name q.frags).isSome && compF ds ((findFrag s.name q.frags).getD Frag.zero).on) && apF ds on ((findFrag s.name q.frags).getD Frag.zero).on) ⟨25, at_⟩
     else if s.kind = 3 then (if s.on = [] then [] else ifL (!compF ds s.on) ⟨24, at_⟩ ++ ifL (compF ds s.on && apF ds on s.on) ⟨25, at_⟩) ++ selF ds q s.sels (if s.on = [] then on else s.on) at_
     else selF ds q s.sels (innF ds on s.name) (at_ ++ [47] ++ keyF s)) ++ selF ds q r on at_
termination_by l => SizeOf.sizeOf l
decreasing_by
  all_goals simp_wf
  all_goals (have := Sel.size_sels s; omega)
theorem selF_nil (ds : List Def) (q : Query) (on at_ : Str) : selF ds q [] on at_ = [] := by rw [selF]
theorem selF_spread {ds : List Def} {q : Query} {s : Sel} {r : List Sel} {on at_ : Str} (h : s.kind = 2) : selF ds q (s :: r) on at_ = (ifL (!(findFrag s.name q.frags).isSome) ⟨24, at_⟩ ++ ifL (((findFrag s.name q.frags).isSome && compF ds ((findFrag s.name q.frags).getD Frag.zero).on) && apF ds on ((findFrag s.name q.frags).getD Frag.zero).on) ⟨25, at_⟩) ++ selF ds q r on at_ := by
  rw [selF, if_pos h]
theorem selF_inline {ds : List Def} {q : Query} {s : Sel} {r : List Sel} {on at_ : Str} (h : s.kind = 3) : selF ds q (s :: r) on at_ = ((if s.on = [] then [] else ifL (!compF ds s.on) ⟨24, at_⟩ ++ ifL (compF ds s.on && apF ds on s.on) ⟨25, at_⟩) ++ selF ds q s.sels (if s.on = [] then on else s.on) at_) ++ selF ds q r on at_ := by
  rw [selF, if_neg (by omega), if_pos h]
theorem selF_field {ds : List Def} {q : Query} {s : Sel} {r : List Sel} {on at_ : Str} (h : ¬ s.kind = 2) (h' : ¬ s.kind = 3) : selF ds q (s :: r) on at_ = selF ds q s.sels (innF ds on s.name) (at_ ++ [47] ++ keyF s) ++ selF ds q r on at_ := by
  rw [selF, if_neg h, if_neg h']
theorem ifL_len (c : Bool) (x : Fault) : (ifL c x).length ≤ 1 := by cases c <;> simp [ifL]
theorem keyF_len (s : Sel) : (keyF s).length ≤ s.ali.length + s.name.length := by unfold keyF; split <;> omega
theorem selF_len (ds : List Def) (q : Query) : ∀ (l : List Sel) (on at_ : Str), (selF ds q l on at_).length ≤ Sel.ws l
  | [], on, at_ => by rw [selF_nil]; exact Nat.zero_le _
  | s :: r, on, at_ => by
    have hr := selF_len ds q r on at_
    have hw := Sel.w_eq s
    have hsz := Sel.size_sels s
    simp only [Sel.ws]
    by_cases h2 : s.kind = 2
    · rw [selF_spread h2]
      have a1 := ifL_len (!(findFrag s.name q.frags).isSome) ⟨24, at_⟩
      have a2 := ifL_len (((findFrag s.name q.frags).isSome && compF ds ((findFrag s.name q.frags).getD Frag.zero).on) && apF ds on ((findFrag s.name q.frags).getD Frag.zero).on) ⟨25, at_⟩
      simp only [List.length_append]; omega
    · by_cases h3 : s.kind = 3
      · rw [selF_inline h3]
        have a1 := ifL_len (!compF ds s.on) ⟨24, at_⟩
        have a2 := ifL_len (compF ds s.on && apF ds on s.on) ⟨25, at_⟩
        have a3 := selF_len ds q s.sels (if s.on = [] then on else s.on) at_
        simp only [List.length_append]
        split <;> simp only [List.length_append, List.length_nil] <;> split at a3 <;> simp_all <;> omega
      · rw [selF_field h2 h3]
        have a3 := selF_len ds q s.sels (innF ds on s.name) (at_ ++ [47] ++ keyF s)
        simp only [List.length_append]; omega
termination_by l => SizeOf.sizeOf l
decreasing_by
  all_goals simp_wf
  all_goals (have := Sel.size_sels s; omega)
def SelC (P : Program) (ds : List Def) (q : Query) (out : List Fault) (l : List Sel) (on at_ : Str) : Prop :=
  FnOk P 77 [.ptr 0 0, .t (.lst (l.map Sel.enc)), .t (.str on), .t (.str at_)] ⟨[(0, .cells [.t (.lst (ds.map Def.enc)), .t (.lst (q.ops.map Op.enc)), .t (.lst (q.frags.map Frag.enc)), .own 1 2 (List.map Fault.enc (out))]), (1, .arr (out).length)], 2⟩ { v := .tup [], ob := [(0, .cells [.t (.lst (ds.map Def.enc)), .t (.lst (q.ops.map Op.enc)), .t (.lst (q.frags.map Frag.enc)), .own 1 2 (List.map Fault.enc (out ++ selF ds q l on at_))]), (1, .arr (out ++ selF ds q l on at_).length)], rd := true }
theorem sels_step (H : Pr13 P) (ds : List Def) (hD : DocOk ds) (q : Query) (hq : q.Ok) (l : List Sel) (on at_ : Str) (hl : SelsOk l) (out : List Fault) (ho : out.length + Sel.ws l ≤ 4398046511104) (ha : at_.length + Sel.ws l ≤ 4398046511104)
    (ih : ∀ l' on' at' out', SizeOf.sizeOf l' < SizeOf.sizeOf l → SelsOk l' → out'.length + Sel.ws l' ≤ 4398046511104 → at'.length + Sel.ws l' ≤ 4398046511104 → SelC P ds q out' l' on' at') : SelC P ds q out l on at_ := by
  have hfl := hq.fl
  have hll := hl.1
  unfold SelC
  generalize hT : out ++ selF ds q l on at_ = tot
  refine FnOk.run H.i77 H.mixed rfl rfl ?_
  refine fR rfl ?_
  refine lM rfl rfl rfl ?_
  refine fM rfl ?_
  refine rList l (fun i (B : List Fault) => { env := [(0, .ptr 0 0), (2, .t (.str on)), (3, .t (.str at_)), (20, .t (.lst (l.map Sel.enc))), (21, .t (.int .i64 l.length)), (22, .t (.int .i64 i))], s := ⟨[(0, .cells [.t (.lst (ds.map Def.enc)), .t (.lst (q.ops.map Op.enc)), .t (.lst (q.frags.map Frag.enc)), .own 1 2 (List.map Fault.enc (B))]), (1, .arr (B).length)], 2⟩ }) (fun r i B => B.length + Sel.ws r ≤ 4398046511104 ∧ B ++ selF ds q r on at_ = tot) 2 out rfl ⟨ho, hT⟩ rfl rfl rfl ?_ ?_
  · rintro B ⟨_, hB⟩
    obtain rfl : B = tot := by rw [← hB, selF_nil]; simp
    refine fR rfl ?_
    refine Run.condF rfl rfl (by simp) ?_
    skip
    refine Run.fin rfl (EndOk.chg rfl rfl ?_ ?_)
    · exact .le (.same rfl)
    · exact (by repeat' (first | exact trivial | exact LeX.t | exact LeX.top | exact LeX.nilOwn (Nat.le_of_ble_eq_true rfl) (Nat.le_of_ble_eq_true rfl) | exact LeX.ownT | exact LeX.nilT | exact LeX.same rfl | exact LeX.tEq (by simp) | exact LeX.ownEq (by simp) (Nat.le_of_ble_eq_true rfl) | exact LeX.tEq (by congr 1 <;> omega) | exact Or.inr ⟨Nat.le_of_ble_eq_true rfl, Nat.le_of_ble_eq_true rfl, rfl⟩ | refine Or.inl ⟨Nat.le_of_ble_eq_true rfl, _, rfl, ?_⟩ | refine LeO.cells ?_ | exact LeO.arr rfl | exact LeO.arr (by simp) | exact LeO.mE (by first | rfl | simp) (by first | exact Or.inl rfl | exact Or.inr rfl) | exact LeO.cE (by first | rfl | simp) | exact LeXs.cE (by first | rfl | simp) | refine LeO.map (by first | rfl | simp) ?_ (by first | exact Or.inl rfl | exact Or.inr rfl) | exact LeO.iter (by first | rfl | simp) (Nat.le_of_ble_eq_true rfl) | refine LeXs.cons ?_ ?_ | exact LeXs.nil | refine And.intro ?_ ?_))
  · rintro i x r B h1 hi hd ⟨hlB, hB⟩ ihl
    have hxm : x ∈ l := List.mem_of_getElem? h1
    have hx := hl.2 x hxm
    have hw := Sel.w_eq x
    have hwm := Sel.ws_mem hxm
    have hkl := keyF_len x
    have hsz : SizeOf.sizeOf x.sels < SizeOf.sizeOf l := Nat.lt_trans (Sel.size_sels x) (List.sizeOf_lt_of_mem hxm)
    simp only [Sel.ws] at hlB
    have hal := hx.al
    have hnl := hx.nm
    refine fR rfl ?_
    refine Run.condT rfl rfl (by simp; omega) ?_
    refine fR rfl ?_
    refine Mid.elemMapC (Sel.enc_eq x) rfl rfl rfl h1 rfl rfl ?_
    refine fM rfl ?_
    refine Run.cond rfl rfl (fun hk => ?_) (fun hk => ?_)
    · have hk' : x.kind = 2 := by simpa using hk
      rw [selF_spread hk'] at hB
      refine fR rfl ?_
      refine Mid.call (qfind_ok H q hq x.name) rfl rfl rfl rfl ?_
      refine fM rfl ?_
      have hfo := fragOk hq x.name
      generalize (findFrag x.name q.frags).getD Frag.zero = f at hB hfo
      generalize (findFrag x.name q.frags).isSome = ok at hB
      have a1 := ifL_len (!ok) ⟨24, at_⟩
      have a2 := ifL_len ((ok && compF ds f.on) && apF ds on f.on) ⟨25, at_⟩
      refine Mid.callR [0, 1] (add13_ok H ds q B (!ok) 24 at_ (by omega)) rfl rfl rfl rfl (by simp [stoBd]; simp [AObj.bd, V.bds, V.bd]) (by repeat' (first | exact trivial | exact rfl | refine And.intro ?_ ?_ | exact (congrArg some (AObj.ren_mE _ _ _ _ _ _)).symm | exact (congrArg some (AObj.ren_cE _ _ _)).symm)) rfl rfl (ob' := [(0, .cells [.t (.lst (ds.map Def.enc)), .t (.lst (q.ops.map Op.enc)), .t (.lst (q.frags.map Frag.enc)), .own 1 2 (List.map Fault.enc (B ++ ifL (!ok) ⟨24, at_⟩))]), (1, .arr (B ++ ifL (!ok) ⟨24, at_⟩).length)]) (rfl) rfl rfl ?_
      refine fM rfl ?_
      generalize ifL (!ok) ⟨24, at_⟩ = N1 at hB a1
      refine caG rfl rfl (fun hg => ⟨_, rfl, composite_ok H ds hD f.on, rfl⟩) rfl rfl ?_
      refine fM rfl ?_
      refine Mid.callRG [0, 1] rfl rfl (fun hg => ⟨_, apart_ok H ds hD q (B ++ N1) on f.on, rfl, rfl⟩) rfl (by simp [stoBd]; simp [AObj.bd, V.bds, V.bd]) (by repeat' (first | exact trivial | exact rfl | refine And.intro ?_ ?_ | exact (congrArg some (AObj.ren_mE _ _ _ _ _ _)).symm | exact (congrArg some (AObj.ren_cE _ _ _)).symm)) rfl ?_
      refine fM rfl ?_
      refine Mid.callR [0, 1] (add13_ok H ds q (B ++ N1) ((ok && compF ds f.on) && apF ds on f.on) 25 at_ (by simp; omega)) rfl rfl rfl rfl (by simp [stoBd]; simp [AObj.bd, V.bds, V.bd]) (by repeat' (first | exact trivial | exact rfl | refine And.intro ?_ ?_ | exact (congrArg some (AObj.ren_mE _ _ _ _ _ _)).symm | exact (congrArg some (AObj.ren_cE _ _ _)).symm)) rfl rfl (ob' := [(0, .cells [.t (.lst (ds.map Def.enc)), .t (.lst (q.ops.map Op.enc)), .t (.lst (q.frags.map Frag.enc)), .own 1 2 (List.map Fault.enc (B ++ N1 ++ ifL ((ok && compF ds f.on) && apF ds on f.on) ⟨25, at_⟩))]), (1, .arr (B ++ N1 ++ ifL ((ok && compF ds f.on) && apF ds on f.on) ⟨25, at_⟩).length)]) (rfl) rfl rfl ?_
      refine fM rfl ?_
      refine aL rfl rfl rfl rfl rfl ?_
      refine fM rfl ?_
      generalize ifL ((ok && compF ds f.on) && apF ds on f.on) ⟨25, at_⟩ = N2 at hB a2
      exact rWeak 2 rfl (ihl (B ++ N1 ++ N2) ⟨by simp; omega, by rw [← hB]; simp⟩) rfl rfl rfl
    · have hk' : ¬ x.kind = 2 := by simpa using hk
      refine fR rfl ?_
      refine Run.cond rfl rfl (fun h3 => ?_) (fun h3 => ?_)
      · have h3' : x.kind = 3 := by simpa using h3
        rw [selF_inline h3'] at hB
        refine fR rfl ?_
        refine Run.cond rfl rfl (fun ho => ?_) (fun ho => ?_)
        · have ho' : ¬ x.on = [] := by simpa using ho
          rw [if_neg ho', if_neg ho'] at hB
          have a1 := ifL_len (!compF ds x.on) ⟨24, at_⟩
          have a2 := ifL_len (compF ds x.on && apF ds on x.on) ⟨25, at_⟩
          refine fR rfl ?_
          refine Mid.call (composite_ok H ds hD x.on) rfl rfl rfl rfl ?_
          refine fM rfl ?_
          refine Mid.callR [0, 1] (add13_ok H ds q B (!compF ds x.on) 24 at_ (by omega)) rfl rfl rfl rfl (by simp [stoBd]; simp [AObj.bd, V.bds, V.bd]) (by repeat' (first | exact trivial | exact rfl | refine And.intro ?_ ?_ | exact (congrArg some (AObj.ren_mE _ _ _ _ _ _)).symm | exact (congrArg some (AObj.ren_cE _ _ _)).symm)) rfl rfl (ob' := [(0, .cells [.t (.lst (ds.map Def.enc)), .t (.lst (q.ops.map Op.enc)), .t (.lst (q.frags.map Frag.enc)), .own 1 2 (List.map Fault.enc (B ++ ifL (!compF ds x.on) ⟨24, at_⟩))]), (1, .arr (B ++ ifL (!compF ds x.on) ⟨24, at_⟩).length)]) (rfl) rfl rfl ?_
          refine fM rfl ?_
          generalize ifL (!compF ds x.on) ⟨24, at_⟩ = N1 at hB a1
          refine Mid.callRG [0, 1] rfl rfl (fun hg => ⟨_, apart_ok H ds hD q (B ++ N1) on x.on, rfl, rfl⟩) rfl (by simp [stoBd]; simp [AObj.bd, V.bds, V.bd]) (by repeat' (first | exact trivial | exact rfl | refine And.intro ?_ ?_ | exact (congrArg some (AObj.ren_mE _ _ _ _ _ _)).symm | exact (congrArg some (AObj.ren_cE _ _ _)).symm)) rfl ?_
          refine fM rfl ?_
          refine Mid.callR [0, 1] (add13_ok H ds q (B ++ N1) (compF ds x.on && apF ds on x.on) 25 at_ (by simp; omega)) rfl rfl rfl rfl (by simp [stoBd]; simp [AObj.bd, V.bds, V.bd]) (by repeat' (first | exact trivial | exact rfl | refine And.intro ?_ ?_ | exact (congrArg some (AObj.ren_mE _ _ _ _ _ _)).symm | exact (congrArg some (AObj.ren_cE _ _ _)).symm)) rfl rfl (ob' := [(0, .cells [.t (.lst (ds.map Def.enc)), .t (.lst (q.ops.map Op.enc)), .t (.lst (q.frags.map Frag.enc)), .own 1 2 (List.map Fault.enc (B ++ N1 ++ ifL (compF ds x.on && apF ds on x.on) ⟨25, at_⟩))]), (1, .arr (B ++ N1 ++ ifL (compF ds x.on && apF ds on x.on) ⟨25, at_⟩).length)]) (rfl) rfl rfl ?_
          refine fM rfl ?_
          generalize ifL (compF ds x.on && apF ds on x.on) ⟨25, at_⟩ = N2 at hB a2
          have hcall := ih x.sels x.on at_ (B ++ N1 ++ N2) hsz (SelsOk.sub hx) (by simp; omega) (by omega)
          unfold SelC at hcall
          have a3 := selF_len ds q x.sels x.on at_
          generalize selF ds q x.sels x.on at_ = N3 at hB a3 hcall
          refine Mid.callR [0, 1] (hcall) rfl rfl rfl rfl (by simp [stoBd]; simp [AObj.bd, V.bds, V.bd]) (by repeat' (first | exact trivial | exact rfl | refine And.intro ?_ ?_ | exact (congrArg some (AObj.ren_mE _ _ _ _ _ _)).symm | exact (congrArg some (AObj.ren_cE _ _ _)).symm)) rfl rfl (ob' := [(0, .cells [.t (.lst (ds.map Def.enc)), .t (.lst (q.ops.map Op.enc)), .t (.lst (q.frags.map Frag.enc)), .own 1 2 (List.map Fault.enc (B ++ N1 ++ N2 ++ N3))]), (1, .arr (B ++ N1 ++ N2 ++ N3).length)]) (rfl) rfl rfl ?_
          refine fM rfl ?_
          refine aL rfl rfl rfl rfl rfl ?_
          refine fM rfl ?_
          exact rWeak 2 rfl (ihl (B ++ N1 ++ N2 ++ N3) ⟨by simp; omega, by rw [← hB]; simp⟩) rfl rfl rfl
        · have ho' : x.on = [] := by simpa using ho
          rw [if_pos ho', if_pos ho'] at hB
          refine fR rfl ?_
          have hcall := ih x.sels on at_ B hsz (SelsOk.sub hx) (by omega) (by omega)
          unfold SelC at hcall
          have a3 := selF_len ds q x.sels on at_
          generalize selF ds q x.sels on at_ = N3 at hB a3 hcall
          refine Mid.callR [0, 1] (hcall) rfl rfl rfl rfl (by simp [stoBd]; simp [AObj.bd, V.bds, V.bd]) (by repeat' (first | exact trivial | exact rfl | refine And.intro ?_ ?_ | exact (congrArg some (AObj.ren_mE _ _ _ _ _ _)).symm | exact (congrArg some (AObj.ren_cE _ _ _)).symm)) rfl rfl (ob' := [(0, .cells [.t (.lst (ds.map Def.enc)), .t (.lst (q.ops.map Op.enc)), .t (.lst (q.frags.map Frag.enc)), .own 1 2 (List.map Fault.enc (B ++ N3))]), (1, .arr (B ++ N3).length)]) (rfl) rfl rfl ?_
          refine fM rfl ?_
          refine aL rfl rfl rfl rfl rfl ?_
          refine fM rfl ?_
          exact rWeak 2 rfl (ihl (B ++ N3) ⟨by simp; omega, by rw [← hB]; simp⟩) rfl rfl rfl
      · have h3' : ¬ x.kind = 3 := by simpa using h3
        rw [selF_field hk' h3'] at hB
        have hF := docFind hD on
        refine fR rfl ?_
        refine Run.cond rfl rfl (fun ha => ?_) (fun ha => ?_)
        · have ha' : x.ali = [] := by simpa using ha
          have hkey : keyF x = x.name := by unfold keyF; rw [if_pos ha']
          rw [hkey] at hB
          refine fR rfl ?_
          refine Mid.call (find_ok H.toPr ds hD.l on) rfl rfl rfl rfl ?_
          refine fM rfl ?_
          refine caG rfl rfl (fun hg => ⟨_, rfl, composite_ok H ds hD on, rfl⟩) rfl rfl ?_
          refine fM rfl ?_
          refine Run.cond rfl rfl (fun hc => ?_) (fun hc => ?_)
          · refine fR rfl ?_
            refine Mid.call (fieldOf_ok H.toPr ((findDef on ds).getD Def.zero) hF.fl x.name) rfl rfl rfl rfl ?_
            refine fM rfl ?_
            refine Run.cond rfl rfl (fun hf => ?_) (fun hf => ?_)
            · refine fR rfl ?_
              refine pu rfl ?_
              refine fM rfl ?_
              refine pu rfl ?_
              have hin : innF ds on x.name = ((findField x.name ((findDef on ds).getD Def.zero).fields).getD Field.zero).ty.name := (by unfold innF; rw [if_pos hc, if_pos hf])
              rw [hin] at hB
              have hcall := ih x.sels (((findField x.name ((findDef on ds).getD Def.zero).fields).getD Field.zero).ty.name) (at_ ++ [47] ++ x.name) B hsz (SelsOk.sub hx) (by omega) (by simp; omega)
              unfold SelC at hcall
              have a3 := selF_len ds q x.sels (((findField x.name ((findDef on ds).getD Def.zero).fields).getD Field.zero).ty.name) (at_ ++ [47] ++ x.name)
              generalize selF ds q x.sels (((findField x.name ((findDef on ds).getD Def.zero).fields).getD Field.zero).ty.name) (at_ ++ [47] ++ x.name) = N3 at hB a3 hcall
              refine Mid.callR [0, 1] (hcall) rfl rfl rfl rfl (by simp [stoBd]; simp [AObj.bd, V.bds, V.bd]) (by repeat' (first | exact trivial | exact rfl | refine And.intro ?_ ?_ | exact (congrArg some (AObj.ren_mE _ _ _ _ _ _)).symm | exact (congrArg some (AObj.ren_cE _ _ _)).symm)) rfl rfl (ob' := [(0, .cells [.t (.lst (ds.map Def.enc)), .t (.lst (q.ops.map Op.enc)), .t (.lst (q.frags.map Frag.enc)), .own 1 2 (List.map Fault.enc (B ++ N3))]), (1, .arr (B ++ N3).length)]) (rfl) rfl rfl ?_
              refine fM rfl ?_
              refine aL rfl rfl rfl rfl rfl ?_
              refine fM rfl ?_
              exact rWeak 2 rfl (ihl (B ++ N3) ⟨by simp; omega, by rw [← hB]; simp⟩) rfl rfl rfl
            · refine fR rfl ?_
              refine pu rfl ?_
              refine fM rfl ?_
              refine pu rfl ?_
              have hin : innF ds on x.name = ([] : Str) := (by unfold innF; rw [if_pos hc, if_neg (by rw [hf]; simp)])
              rw [hin] at hB
              have hcall := ih x.sels (([] : Str)) (at_ ++ [47] ++ x.name) B hsz (SelsOk.sub hx) (by omega) (by simp; omega)
              unfold SelC at hcall
              have a3 := selF_len ds q x.sels (([] : Str)) (at_ ++ [47] ++ x.name)
              generalize selF ds q x.sels (([] : Str)) (at_ ++ [47] ++ x.name) = N3 at hB a3 hcall
              refine Mid.callR [0, 1] (hcall) rfl rfl rfl rfl (by simp [stoBd]; simp [AObj.bd, V.bds, V.bd]) (by repeat' (first | exact trivial | exact rfl | refine And.intro ?_ ?_ | exact (congrArg some (AObj.ren_mE _ _ _ _ _ _)).symm | exact (congrArg some (AObj.ren_cE _ _ _)).symm)) rfl rfl (ob' := [(0, .cells [.t (.lst (ds.map Def.enc)), .t (.lst (q.ops.map Op.enc)), .t (.lst (q.frags.map Frag.enc)), .own 1 2 (List.map Fault.enc (B ++ N3))]), (1, .arr (B ++ N3).length)]) (rfl) rfl rfl ?_
              refine fM rfl ?_
              refine aL rfl rfl rfl rfl rfl ?_
              refine fM rfl ?_
              exact rWeak 2 rfl (ihl (B ++ N3) ⟨by simp; omega, by rw [← hB]; simp⟩) rfl rfl rfl
          · refine fR rfl ?_
            refine pu rfl ?_
            refine fM rfl ?_
            refine pu rfl ?_
            have hin : innF ds on x.name = ([] : Str) := (by unfold innF; rw [if_neg (by rw [hc]; simp)])
            rw [hin] at hB
            have hcall := ih x.sels (([] : Str)) (at_ ++ [47] ++ x.name) B hsz (SelsOk.sub hx) (by omega) (by simp; omega)
            unfold SelC at hcall
            have a3 := selF_len ds q x.sels (([] : Str)) (at_ ++ [47] ++ x.name)
            generalize selF ds q x.sels (([] : Str)) (at_ ++ [47] ++ x.name) = N3 at hB a3 hcall
            refine Mid.callR [0, 1] (hcall) rfl rfl rfl rfl (by simp [stoBd]; simp [AObj.bd, V.bds, V.bd]) (by repeat' (first | exact trivial | exact rfl | refine And.intro ?_ ?_ | exact (congrArg some (AObj.ren_mE _ _ _ _ _ _)).symm | exact (congrArg some (AObj.ren_cE _ _ _)).symm)) rfl rfl (ob' := [(0, .cells [.t (.lst (ds.map Def.enc)), .t (.lst (q.ops.map Op.enc)), .t (.lst (q.frags.map Frag.enc)), .own 1 2 (List.map Fault.enc (B ++ N3))]), (1, .arr (B ++ N3).length)]) (rfl) rfl rfl ?_
            refine fM rfl ?_
            refine aL rfl rfl rfl rfl rfl ?_
            refine fM rfl ?_
            exact rWeak 2 rfl (ihl (B ++ N3) ⟨by simp; omega, by rw [← hB]; simp⟩) rfl rfl rfl
        · have ha' : ¬ x.ali = [] := by simpa using ha
          have hkey : keyF x = x.ali := by unfold keyF; rw [if_neg ha']
          rw [hkey] at hB
          refine fR rfl ?_
          refine Mid.call (find_ok H.toPr ds hD.l on) rfl rfl rfl rfl ?_
          refine fM rfl ?_
          refine caG rfl rfl (fun hg => ⟨_, rfl, composite_ok H ds hD on, rfl⟩) rfl rfl ?_
          refine fM rfl ?_
          refine Run.cond rfl rfl (fun hc => ?_) (fun hc => ?_)
          · refine fR rfl ?_
            refine Mid.call (fieldOf_ok H.toPr ((findDef on ds).getD Def.zero) hF.fl x.name) rfl rfl rfl rfl ?_
            refine fM rfl ?_
            refine Run.cond rfl rfl (fun hf => ?_) (fun hf => ?_)
            · refine fR rfl ?_
              refine pu rfl ?_
              refine fM rfl ?_
              refine pu rfl ?_
              have hin : innF ds on x.name = ((findField x.name ((findDef on ds).getD Def.zero).fields).getD Field.zero).ty.name := (by unfold innF; rw [if_pos hc, if_pos hf])
              rw [hin] at hB
              have hcall := ih x.sels (((findField x.name ((findDef on ds).getD Def.zero).fields).getD Field.zero).ty.name) (at_ ++ [47] ++ x.ali) B hsz (SelsOk.sub hx) (by omega) (by simp; omega)
              unfold SelC at hcall
              have a3 := selF_len ds q x.sels (((findField x.name ((findDef on ds).getD Def.zero).fields).getD Field.zero).ty.name) (at_ ++ [47] ++ x.ali)
              generalize selF ds q x.sels (((findField x.name ((findDef on ds).getD Def.zero).fields).getD Field.zero).ty.name) (at_ ++ [47] ++ x.ali) = N3 at hB a3 hcall
              refine Mid.callR [0, 1] (hcall) rfl rfl rfl rfl (by simp [stoBd]; simp [AObj.bd, V.bds, V.bd]) (by repeat' (first | exact trivial | exact rfl | refine And.intro ?_ ?_ | exact (congrArg some (AObj.ren_mE _ _ _ _ _ _)).symm | exact (congrArg some (AObj.ren_cE _ _ _)).symm)) rfl rfl (ob' := [(0, .cells [.t (.lst (ds.map Def.enc)), .t (.lst (q.ops.map Op.enc)), .t (.lst (q.frags.map Frag.enc)), .own 1 2 (List.map Fault.enc (B ++ N3))]), (1, .arr (B ++ N3).length)]) (rfl) rfl rfl ?_
              refine fM rfl ?_
              refine aL rfl rfl rfl rfl rfl ?_
              refine fM rfl ?_
              exact rWeak 2 rfl (ihl (B ++ N3) ⟨by simp; omega, by rw [← hB]; simp⟩) rfl rfl rfl
            · refine fR rfl ?_
              refine pu rfl ?_
              refine fM rfl ?_
              refine pu rfl ?_
              have hin : innF ds on x.name = ([] : Str) := (by unfold innF; rw [if_pos hc, if_neg (by rw [hf]; simp)])
              rw [hin] at hB
              have hcall := ih x.sels (([] : Str)) (at_ ++ [47] ++ x.ali) B hsz (SelsOk.sub hx) (by omega) (by simp; omega)
              unfold SelC at hcall
              have a3 := selF_len ds q x.sels (([] : Str)) (at_ ++ [47] ++ x.ali)
              generalize selF ds q x.sels (([] : Str)) (at_ ++ [47] ++ x.ali) = N3 at hB a3 hcall
              refine Mid.callR [0, 1] (hcall) rfl rfl rfl rfl (by simp [stoBd]; simp [AObj.bd, V.bds, V.bd]) (by repeat' (first | exact trivial | exact rfl | refine And.intro ?_ ?_ | exact (congrArg some (AObj.ren_mE _ _ _ _ _ _)).symm | exact (congrArg some (AObj.ren_cE _ _ _)).symm)) rfl rfl (ob' := [(0, .cells [.t (.lst (ds.map Def.enc)), .t (.lst (q.ops.map Op.enc)), .t (.lst (q.frags.map Frag.enc)), .own 1 2 (List.map Fault.enc (B ++ N3))]), (1, .arr (B ++ N3).length)]) (rfl) rfl rfl ?_
              refine fM rfl ?_
              refine aL rfl rfl rfl rfl rfl ?_
              refine fM rfl ?_
              exact rWeak 2 rfl (ihl (B ++ N3) ⟨by simp; omega, by rw [← hB]; simp⟩) rfl rfl rfl
          · refine fR rfl ?_
            refine pu rfl ?_
            refine fM rfl ?_
            refine pu rfl ?_
            have hin : innF ds on x.name = ([] : Str) := (by unfold innF; rw [if_neg (by rw [hc]; simp)])
            rw [hin] at hB
            have hcall := ih x.sels (([] : Str)) (at_ ++ [47] ++ x.ali) B hsz (SelsOk.sub hx) (by omega) (by simp; omega)
            unfold SelC at hcall
            have a3 := selF_len ds q x.sels (([] : Str)) (at_ ++ [47] ++ x.ali)
            generalize selF ds q x.sels (([] : Str)) (at_ ++ [47] ++ x.ali) = N3 at hB a3 hcall
            refine Mid.callR [0, 1] (hcall) rfl rfl rfl rfl (by simp [stoBd]; simp [AObj.bd, V.bds, V.bd]) (by repeat' (first | exact trivial | exact rfl | refine And.intro ?_ ?_ | exact (congrArg some (AObj.ren_mE _ _ _ _ _ _)).symm | exact (congrArg some (AObj.ren_cE _ _ _)).symm)) rfl rfl (ob' := [(0, .cells [.t (.lst (ds.map Def.enc)), .t (.lst (q.ops.map Op.enc)), .t (.lst (q.frags.map Frag.enc)), .own 1 2 (List.map Fault.enc (B ++ N3))]), (1, .arr (B ++ N3).length)]) (rfl) rfl rfl ?_
            refine fM rfl ?_
            refine aL rfl rfl rfl rfl rfl ?_
            refine fM rfl ?_
            exact rWeak 2 rfl (ihl (B ++ N3) ⟨by simp; omega, by rw [← hB]; simp⟩) rfl rfl rfl
theorem sels_ok (H : Pr13 P) (ds : List Def) (hD : DocOk ds) (q : Query) (hq : q.Ok) : ∀ (l : List Sel) (on at_ : Str) (hl : SelsOk l) (out : List Fault) (ho : out.length + Sel.ws l ≤ 4398046511104) (ha : at_.length + Sel.ws l ≤ 4398046511104), SelC P ds q out l on at_
  | l, on, at_, hl, out, ho, ha => sels_step H ds hD q hq l on at_ hl out ho ha fun l' on' at' out' h h1 h2 h3 => sels_ok H ds hD q hq l' on' at' h1 out' h2 h3
termination_by l => SizeOf.sizeOf l
end Go.GB.C11


/-
  E13E: chapter 13's functions: the check of documents.
-/
namespace Go.GB.C11
open Go.GB
set_option linter.unusedSimpArgs false
set_option linter.unusedVariables false
set_option maxRecDepth 100000
set_option maxHeartbeats 4000000
variable {P : Program}

def opsW (l : List Op) : Nat := (l.map fun o => Sel.ws o.sels + o.name.length).sum
def frW (l : List Frag) : Nat := (l.map fun o => Sel.ws o.sels + o.name.length + 3).sum
theorem opsW_cons (o : Op) (l : List Op) : opsW (o :: l) = Sel.ws o.sels + o.name.length + opsW l := by simp [opsW]
theorem frW_cons (o : Frag) (l : List Frag) : frW (o :: l) = Sel.ws o.sels + o.name.length + 3 + frW l := by simp [frW]
theorem opsW_mem : ∀ {l : List Op} {o : Op}, o ∈ l → Sel.ws o.sels + o.name.length ≤ opsW l
  | [], o, h => by cases h
  | y :: r, o, h => by
    rw [opsW_cons]
    rcases List.mem_cons.1 h with rfl | h
    · omega
    · have := opsW_mem h; omega
theorem frW_mem : ∀ {l : List Frag} {o : Frag}, o ∈ l → Sel.ws o.sels + o.name.length + 3 ≤ frW l
  | [], o, h => by cases h
  | y :: r, o, h => by
    rw [frW_cons]
    rcases List.mem_cons.1 h with rfl | h
    · omega
    · have := frW_mem h; omega
def opL (ds : List Def) (q : Query) : List Op → List Fault
  | [] => []
  | o :: r => selF ds q o.sels (rootF o.kind) o.name ++ opL ds q r
def frL (ds : List Def) (q : Query) : List Frag → List Fault
  | [] => []
  | f :: r => ifL (!compF ds f.on) ⟨24, f.name⟩ ++ ifL (loopF q f) ⟨24, f.name⟩ ++ ifL (!usedF q f.name) ⟨26, f.name⟩ ++ selF ds q f.sels f.on f.name ++ frL ds q r
def chkF (ds : List Def) (q : Query) : List Fault := opL ds q q.ops ++ frL ds q q.frags
theorem opL_len (ds : List Def) (q : Query) : ∀ l : List Op, (opL ds q l).length ≤ opsW l
  | [] => by simp [opL]
  | o :: r => by
    have := opL_len ds q r; have := selF_len ds q o.sels (rootF o.kind) o.name
    rw [opsW_cons]; simp only [opL, List.length_append]; omega
theorem frL_len (ds : List Def) (q : Query) : ∀ l : List Frag, (frL ds q l).length ≤ frW l
  | [] => by simp [frL]
  | o :: r => by
    have := frL_len ds q r; have := selF_len ds q o.sels o.on o.name
    have := ifL_len (!compF ds o.on) ⟨24, o.name⟩; have := ifL_len (loopF q o) ⟨24, o.name⟩; have := ifL_len (!usedF q o.name) ⟨26, o.name⟩
    rw [frW_cons]; simp only [frL, List.length_append]; omega
theorem chkF_len (ds : List Def) (q : Query) : (chkF ds q).length ≤ opsW q.ops + frW q.frags := by
  have := opL_len ds q q.ops; have := frL_len ds q q.frags
  unfold chkF; rw [List.length_append]; omega
/-- the names that are used, as a map -/
def UsedI (q : Query) (l : List Op) (M : List (Str × Bool)) : Prop := ∀ k, (kget k M).getD false = l.any fun o => decide (k ∈ (wF q o.sels).1)
theorem kset_list {M : List (Str × Bool)} (x k : Str) : (kget k (kset x true M)).getD false = ((kget k M).getD false || decide (k = x)) := by
  rw [kget_kset]
  by_cases h : k = x
  · subst h; simp
  · simp [h]
theorem check13_ok (H : Pr13 P) (ds : List Def) (hD : DocOk ds) (q : Query) (hq : q.Ok) (hw : opsW q.ops + frW q.frags ≤ 1099511627776) : FnOk P 41 [docV ds, q.v] ⟨[], 0⟩ { v := .t (.lst ((chkF ds q).map Fault.enc)) } := by
  have hfl := hq.fl
  have hol := hq.ol
  have hct := chkF_len ds q
  generalize hT : chkF ds q = tot at hct
  refine FnOk.run H.i41 H.mixed rfl rfl ?_
  refine fR rfl ?_
  refine Mid.mkmapT sE bE rfl ?_
  refine fM rfl ?_
  refine lM rfl rfl rfl ?_
  refine fM rfl ?_
  refine rList q.ops (fun i (B : List Fault × List (Str × Bool)) => { env := [(2, .ptr 0 0), (3, .ptr 1 0), (5, .ptr 2 0), (6, .mp 3), (21, .t (.lst (q.ops.map Op.enc))), (22, .t (.int .i64 q.ops.length)), (23, .t (.int .i64 i))], s := ⟨[(0, .cells [.t (.lst (ds.map Def.enc))]), (1, .cells [.t (.lst (q.ops.map Op.enc)), .t (.lst (q.frags.map Frag.enc))]), (2, .cells [.t (.lst (ds.map Def.enc)), .t (.lst (q.ops.map Op.enc)), .t (.lst (q.frags.map Frag.enc)), .own 4 2 (List.map Fault.enc (B.1))]), (3, .map false (mE sE bE B.2) none), (4, .arr (B.1).length)], 5⟩ }) (fun r i B => B.1.length + opsW r ≤ opsW q.ops ∧ UsedI q (q.ops.take i) B.2 ∧ B.1 ++ opL ds q r = opL ds q q.ops) 4 ([], []) rfl ⟨by simp, by intro k; simp [kget], rfl⟩ rfl rfl rfl ?_ ?_
  · rintro ⟨B, M⟩ ⟨_, hM, hB⟩
    have hM' : UsedI q q.ops M := by have := hM; simpa using this
    have hB' : B = opL ds q q.ops := by have := hB; simpa [opL] using this
    have hBl := opL_len ds q q.ops
    rw [← hB'] at hBl
    dsimp only
    refine fR rfl ?_
    refine Run.condF rfl rfl (by simp) ?_
    refine fR rfl ?_
    refine lM rfl rfl rfl ?_
    refine fM rfl ?_
    refine rList q.frags (fun i (B : List Fault) => { env := [(2, .ptr 0 0), (3, .ptr 1 0), (5, .ptr 2 0), (6, .mp 3), (54, .t (.lst (q.frags.map Frag.enc))), (55, .t (.int .i64 q.frags.length)), (56, .t (.int .i64 i))], s := ⟨[(0, .cells [.t (.lst (ds.map Def.enc))]), (1, .cells [.t (.lst (q.ops.map Op.enc)), .t (.lst (q.frags.map Frag.enc))]), (2, .cells [.t (.lst (ds.map Def.enc)), .t (.lst (q.ops.map Op.enc)), .t (.lst (q.frags.map Frag.enc)), .own 4 2 (List.map Fault.enc (B))]), (3, .map false (mE sE bE M) none), (4, .arr (B).length)], 5⟩ }) (fun r i C => C.length + frW r ≤ opsW q.ops + frW q.frags ∧ C ++ frL ds q r = tot) 5 B rfl ⟨by omega, by rw [hB', ← hT]; rfl⟩ rfl rfl rfl ?_ ?_
    · rintro C ⟨_, hC⟩
      obtain rfl : C = tot := by rw [← hC]; simp [frL]
      refine fR rfl ?_
      refine Run.condF rfl rfl (by simp) ?_
      refine fR rfl ?_
      refine Run.fin rfl (EndOk.go ?_); exact .own rfl
    · rintro i f r C h1 hi hd ⟨hlC, hC⟩ ih
      rw [frW_cons] at hlC
      simp only [frL] at hC
      have hfm : f ∈ q.frags := List.mem_of_getElem? h1
      have hfk := hq.f f hfm
      have hfw := frW_mem hfm
      have hu : (kget f.name M).getD false = usedF q f.name := hM' f.name
      refine fR rfl ?_
      refine Run.condT rfl rfl (by simp; omega) ?_
      refine fR rfl ?_
      refine Mid.elemMap rfl rfl rfl h1 rfl rfl ?_
      refine fM rfl ?_
      refine Mid.call (composite_ok H ds hD f.on) rfl rfl rfl rfl ?_
      refine fM rfl ?_
      refine Mid.callR [2, 4] (add13_ok H ds q C (!compF ds f.on) 24 f.name (by omega)) rfl rfl rfl rfl (by simp [stoBd]; simp [AObj.bd, V.bds, V.bd]) (by repeat' (first | exact trivial | exact rfl | refine And.intro ?_ ?_ | exact (congrArg some (AObj.ren_mE _ _ _ _ _ _)).symm | exact (congrArg some (AObj.ren_cE _ _ _)).symm)) rfl rfl (ob' := [(2, .cells [.t (.lst (ds.map Def.enc)), .t (.lst (q.ops.map Op.enc)), .t (.lst (q.frags.map Frag.enc)), .own 4 2 (List.map Fault.enc (C ++ ifL (!compF ds f.on) ⟨24, f.name⟩))]), (4, .arr (C ++ ifL (!compF ds f.on) ⟨24, f.name⟩).length)]) (rfl) rfl rfl ?_
      refine fM rfl ?_
      have a1 := ifL_len (!compF ds f.on) ⟨24, f.name⟩
      generalize ifL (!compF ds f.on) ⟨24, f.name⟩ = N1 at hC a1
      refine Mid.call (loops_ok H q hq f hfk) rfl rfl rfl rfl ?_
      refine fM rfl ?_
      refine Mid.callR [2, 4] (add13_ok H ds q (C ++ N1) (loopF q f) 24 f.name (by simp; omega)) rfl rfl rfl rfl (by simp [stoBd]; simp [AObj.bd, V.bds, V.bd]) (by repeat' (first | exact trivial | exact rfl | refine And.intro ?_ ?_ | exact (congrArg some (AObj.ren_mE _ _ _ _ _ _)).symm | exact (congrArg some (AObj.ren_cE _ _ _)).symm)) rfl rfl (ob' := [(2, .cells [.t (.lst (ds.map Def.enc)), .t (.lst (q.ops.map Op.enc)), .t (.lst (q.frags.map Frag.enc)), .own 4 2 (List.map Fault.enc (C ++ N1 ++ ifL (loopF q f) ⟨24, f.name⟩))]), (4, .arr (C ++ N1 ++ ifL (loopF q f) ⟨24, f.name⟩).length)]) (rfl) rfl rfl ?_
      refine fM rfl ?_
      have a2 := ifL_len (loopF q f) ⟨24, f.name⟩
      generalize ifL (loopF q f) ⟨24, f.name⟩ = N2 at hC a2
      refine Mid.lookT (f.name) rfl rfl rfl rfl rfl (sE_ok) rfl ?_
      refine fM rfl ?_
      rw [hu]
      refine Mid.callR [2, 4] (add13_ok H ds q (C ++ N1 ++ N2) (!usedF q f.name) 26 f.name (by simp; omega)) rfl rfl rfl rfl (by simp [stoBd]; simp [AObj.bd, V.bds, V.bd]) (by repeat' (first | exact trivial | exact rfl | refine And.intro ?_ ?_ | exact (congrArg some (AObj.ren_mE _ _ _ _ _ _)).symm | exact (congrArg some (AObj.ren_cE _ _ _)).symm)) rfl rfl (ob' := [(2, .cells [.t (.lst (ds.map Def.enc)), .t (.lst (q.ops.map Op.enc)), .t (.lst (q.frags.map Frag.enc)), .own 4 2 (List.map Fault.enc (C ++ N1 ++ N2 ++ ifL (!usedF q f.name) ⟨26, f.name⟩))]), (4, .arr (C ++ N1 ++ N2 ++ ifL (!usedF q f.name) ⟨26, f.name⟩).length)]) (rfl) rfl rfl ?_
      refine fM rfl ?_
      have a3 := ifL_len (!usedF q f.name) ⟨26, f.name⟩
      generalize ifL (!usedF q f.name) ⟨26, f.name⟩ = N3 at hC a3
      have hcall := sels_ok H ds hD q hq f.sels f.on f.name hfk.s (C ++ N1 ++ N2 ++ N3) (by simp; omega) (by omega)
      unfold SelC at hcall
      have a4 := selF_len ds q f.sels f.on f.name
      generalize selF ds q f.sels f.on f.name = N4 at hC a4 hcall
      refine Mid.callR [2, 4] (hcall) rfl rfl rfl rfl (by simp [stoBd]; simp [AObj.bd, V.bds, V.bd]) (by repeat' (first | exact trivial | exact rfl | refine And.intro ?_ ?_ | exact (congrArg some (AObj.ren_mE _ _ _ _ _ _)).symm | exact (congrArg some (AObj.ren_cE _ _ _)).symm)) rfl rfl (ob' := [(2, .cells [.t (.lst (ds.map Def.enc)), .t (.lst (q.ops.map Op.enc)), .t (.lst (q.frags.map Frag.enc)), .own 4 2 (List.map Fault.enc (C ++ N1 ++ N2 ++ N3 ++ N4))]), (4, .arr (C ++ N1 ++ N2 ++ N3 ++ N4).length)]) (rfl) rfl rfl ?_
      refine fM rfl ?_
      refine aL rfl rfl rfl rfl rfl ?_
      refine fM rfl ?_
      exact rWeak 5 rfl (ih (C ++ N1 ++ N2 ++ N3 ++ N4) ⟨by simp; omega, by rw [← hC]; simp⟩) rfl rfl rfl
  · rintro i o r ⟨B, M⟩ h1 hi hd ⟨hlB, hM, hB⟩ ih
    dsimp only at hlB hM hB ih ⊢
    rw [opsW_cons] at hlB
    simp only [opL] at hB
    have hom : o ∈ q.ops := List.mem_of_getElem? h1
    have hok := hq.o o hom
    have how := opsW_mem hom
    have hwl := wF_len q o.sels
    have htk : q.ops.take i ++ [o] = q.ops.take (i + 1) := by rw [List.take_add_one, h1]; rfl
    refine fR rfl ?_
    refine Run.condT rfl rfl (by simp; omega) ?_
    refine fR rfl ?_
    refine Mid.elemMap rfl rfl rfl h1 rfl rfl ?_
    refine fM rfl ?_
    refine Mid.call (root_ok H o.kind) rfl rfl rfl rfl ?_
    refine fM rfl ?_
    have hcall := sels_ok H ds hD q hq o.sels (rootF o.kind) o.name hok.s B (by omega) (by omega)
    unfold SelC at hcall
    have a4 := selF_len ds q o.sels (rootF o.kind) o.name
    generalize selF ds q o.sels (rootF o.kind) o.name = N4 at hB a4 hcall
    refine Mid.callR [2, 4] (hcall) rfl rfl rfl rfl (by simp [stoBd]; simp [AObj.bd, V.bds, V.bd]) (by repeat' (first | exact trivial | exact rfl | refine And.intro ?_ ?_ | exact (congrArg some (AObj.ren_mE _ _ _ _ _ _)).symm | exact (congrArg some (AObj.ren_cE _ _ _)).symm)) rfl rfl (ob' := [(2, .cells [.t (.lst (ds.map Def.enc)), .t (.lst (q.ops.map Op.enc)), .t (.lst (q.frags.map Frag.enc)), .own 4 2 (List.map Fault.enc (B ++ N4))]), (4, .arr (B ++ N4).length)]) (rfl) rfl rfl ?_
    refine fM rfl ?_
    refine Mid.callO [] ((walk_ok H q hq q.frags.length o.sels [] hok.s (WOk.start q)).nil) rfl rfl rfl rfl (by simp [stoBd]) (by repeat' (first | exact trivial | exact rfl | refine And.intro ?_ ?_ | exact (congrArg some (AObj.ren_mE _ _ _ _ _ _)).symm | exact (congrArg some (AObj.ren_cE _ _ _)).symm)) rfl rfl (ob' := [(6, .arr (wF q o.sels).1.length)]) (rfl) rfl rfl ?_
    refine fM rfl ?_
    refine lM rfl rfl rfl ?_
    refine fM rfl ?_
    generalize hW : (wF q o.sels).1 = W at hwl
    refine rList W (fun k (N : List (Str × Bool)) => { env := [(2, .ptr 0 0), (3, .ptr 1 0), (5, .ptr 2 0), (6, .mp 3), (21, .t (.lst (q.ops.map Op.enc))), (22, .t (.int .i64 q.ops.length)), (23, .t (.int .i64 i)), (43, .t (.lst (W.map sE))), (44, .t (.int .i64 W.length)), (45, .t (.int .i64 k))], s := ⟨[(0, .cells [.t (.lst (ds.map Def.enc))]), (1, .cells [.t (.lst (q.ops.map Op.enc)), .t (.lst (q.frags.map Frag.enc))]), (2, .cells [.t (.lst (ds.map Def.enc)), .t (.lst (q.ops.map Op.enc)), .t (.lst (q.frags.map Frag.enc)), .own 4 2 (List.map Fault.enc (B ++ N4))]), (3, .map false (mE sE bE N) none), (4, .arr (B ++ N4).length)], 5⟩ }) (fun r k N => ∀ x, (kget x N).getD false = ((kget x M).getD false || decide (x ∈ W.take k))) 5 M rfl (by intro x; simp) rfl rfl rfl ?_ ?_
    · rintro N hN
      have hN' : UsedI q (q.ops.take (i + 1)) N := by
        intro x
        rw [hN x, hM x, ← htk, List.any_append, List.take_length]
        simp [hW]
      refine fR rfl ?_
      refine Run.condF rfl rfl (by simp) ?_
      refine fR rfl ?_
      refine aL rfl rfl rfl rfl rfl ?_
      refine fM rfl ?_
      exact rWeak 5 rfl (ih (B ++ N4, N) ⟨by simp; omega, hN', by rw [← hB]; simp⟩) rfl rfl rfl
    · rintro k x s N g1 gi gd hN ih2
      have gtk : W.take k ++ [x] = W.take (k + 1) := by rw [List.take_add_one, g1]; rfl
      refine fR rfl ?_
      refine Run.condT rfl rfl (by simp; omega) ?_
      refine fR rfl ?_
      refine Mid.elemMap rfl rfl rfl g1 rfl rfl ?_
      refine fM rfl ?_
      refine Mid.mapT (x) rfl rfl rfl rfl (sE_ok) rfl ?_
      refine fM rfl ?_
      refine aL rfl rfl rfl rfl rfl ?_
      refine fM rfl ?_
      exact rWeak 5 rfl (ih2 (kset x true N) (by intro y; rw [kset_list, hN y, ← gtk]; simp [List.mem_append, Bool.or_assoc])) rfl rfl rfl
end Go.GB.C11


/-
  E13F: chapter 13's functions: the reference's check of documents.
-/
namespace Go.GB.C11
open Go.GB
set_option linter.unusedSimpArgs false
set_option linter.unusedVariables false
set_option maxRecDepth 100000
set_option maxHeartbeats 4000000
variable {P : Program}

end Go.GB.C11


/-
  E13G: chapter 13's functions: large documents.
-/
namespace Go.GB.C11
open Go.GB
set_option linter.unusedSimpArgs false
set_option linter.unusedVariables false
set_option maxRecDepth 100000
set_option maxHeartbeats 4000000
variable {P : Program}

def deepF (lv : Int) : List Sel → Bool
  | [] => false
  | s :: r => (decide (lv ≤ 0) || deepF (IntKind.i64.wrap (lv - 1)) s.sels) || deepF lv r
termination_by l => SizeOf.sizeOf l
decreasing_by
  all_goals simp_wf
  all_goals (have := Sel.size_sels s; omega)
def cntF (lim n : Int) : List Sel → Int
  | [] => n
  | s :: r => if n < lim then cntF lim (IntKind.i64.wrap (n + IntKind.i64.wrap (IntKind.i64.wrap (IntKind.i64.wrap (1 + (s.args.length : Nat)) + (s.dirs.length : Nat)) + cntF (IntKind.i64.wrap (lim - n)) 0 s.sels))) r else n
termination_by l => SizeOf.sizeOf l
decreasing_by
  all_goals simp_wf
  all_goals (have := Sel.size_sels s; omega)
theorem deepF_nil (lv : Int) : deepF lv [] = false := by rw [deepF]
theorem deepF_cons (lv : Int) (s : Sel) (r : List Sel) : deepF lv (s :: r) = ((decide (lv ≤ 0) || deepF (IntKind.i64.wrap (lv - 1)) s.sels) || deepF lv r) := by rw [deepF]
theorem cntF_nil (lim n : Int) : cntF lim n [] = n := by rw [cntF]
theorem cntF_lt {lim n : Int} (h : n < lim) (s : Sel) (r : List Sel) : cntF lim n (s :: r) = cntF lim (IntKind.i64.wrap (n + IntKind.i64.wrap (IntKind.i64.wrap (IntKind.i64.wrap (1 + (s.args.length : Nat)) + (s.dirs.length : Nat)) + cntF (IntKind.i64.wrap (lim - n)) 0 s.sels))) r := by rw [cntF, if_pos h]
theorem cntF_ge {lim n : Int} (h : ¬ n < lim) (s : Sel) (r : List Sel) : cntF lim n (s :: r) = n := by rw [cntF, if_neg h]
def DeepC (P : Program) (lv : Int) (l : List Sel) : Prop := FnOk P 69 [.t (.lst (l.map Sel.enc)), .t (.int .i64 lv)] ⟨[], 0⟩ { v := .t (.bool (deepF lv l)) }
theorem deep_step (H : Pr13 P) (lv : Int) (l : List Sel) (hl : SelsOk l) (ih : ∀ lv' l', SizeOf.sizeOf l' < SizeOf.sizeOf l → SelsOk l' → DeepC P lv' l') : DeepC P lv l := by
  have hll := hl.1
  unfold DeepC
  generalize hT : deepF lv l = tot
  refine FnOk.run H.i69 H.mixed rfl rfl ?_
  refine fR rfl ?_
  refine rList l (fun i (_ : Unit) => { env := [(0, .t (.lst (l.map Sel.enc))), (1, .t (.int .i64 lv)), (5, .t (.int .i64 i))], s := ⟨[], 0⟩ }) (fun r i _ => deepF lv r = tot) 0 () rfl hT rfl rfl rfl ?_ ?_
  · intro _ hinv
    rw [deepF_nil] at hinv
    refine fR rfl ?_
    refine lM rfl rfl rfl ?_
    refine fM rfl ?_
    refine Run.condF rfl rfl (by simp) ?_
    refine fR rfl ?_
    refine Run.fin rfl (EndOk.go ?_); exact .t (by rw [← hinv])
  · intro i x r _ h1 hi hd hinv ihl
    rw [deepF_cons] at hinv
    have hxm : x ∈ l := List.mem_of_getElem? h1
    have hx := hl.2 x hxm
    have hsz : SizeOf.sizeOf x.sels < SizeOf.sizeOf l := Nat.lt_trans (Sel.size_sels x) (List.sizeOf_lt_of_mem hxm)
    have hcall := ih (IntKind.i64.wrap (lv - 1)) x.sels hsz (SelsOk.sub hx)
    unfold DeepC at hcall
    refine fR rfl ?_
    refine lM rfl rfl rfl ?_
    refine fM rfl ?_
    refine Run.condT rfl rfl (by simp; omega) ?_
    refine fR rfl ?_
    refine Mid.elemMapCG (Sel.enc_eq x) rfl rfl rfl rfl h1 rfl (by (repeat' (first | exact trivial | exact Bool.not_or_self _ | exact grd1 _ | exact grd2 _ | exact grd3 _ _ | exact grd4 _ _ | refine And.intro ?_ ?_ | exact rfl | (simp; done) | (simp <;> omega))); done) (by (repeat' (first | exact trivial | exact Bool.not_or_self _ | exact grd1 _ | exact grd2 _ | exact grd3 _ _ | exact grd4 _ _ | refine And.intro ?_ ?_ | exact rfl | (simp; done) | (simp <;> omega))); done) rfl ?_
    refine fM rfl ?_
    refine gr rfl ?_
    refine caG rfl rfl (fun hg => ⟨_, rfl, hcall, rfl⟩) rfl rfl ?_
    refine fM rfl ?_
    refine Run.cond rfl rfl (fun hc => ?_) (fun hc => ?_)
    · refine fR rfl ?_
      refine Run.fin rfl (EndOk.go ?_); exact .t (by rw [← hinv, hc]; rfl)
    · refine fR rfl ?_
      refine aL rfl rfl rfl rfl rfl ?_
      refine fM rfl ?_
      exact rWeak 0 rfl (ihl () (by rw [← hinv, hc]; rfl)) rfl rfl rfl
theorem deep_ok (H : Pr13 P) : ∀ (lv : Int) (l : List Sel) (hl : SelsOk l), DeepC P lv l
  | lv, l, hl => deep_step H lv l hl fun lv' l' h h1 => deep_ok H lv' l' h1
termination_by lv l => SizeOf.sizeOf l
def CntC (P : Program) (lim : Int) (l : List Sel) : Prop := FnOk P 70 [.t (.lst (l.map Sel.enc)), .t (.int .i64 lim)] ⟨[], 0⟩ { v := .t (.int .i64 (cntF lim 0 l)) }
theorem count_step (H : Pr13 P) (lim : Int) (l : List Sel) (hl : SelsOk l) (ih : ∀ lim' l', SizeOf.sizeOf l' < SizeOf.sizeOf l → SelsOk l' → CntC P lim' l') : CntC P lim l := by
  have hll := hl.1
  unfold CntC
  generalize hT : cntF lim 0 l = tot
  refine FnOk.run H.i70 H.mixed rfl rfl ?_
  refine fR rfl ?_
  refine rList l (fun i (n : Int) => { env := [(0, .t (.lst (l.map Sel.enc))), (1, .t (.int .i64 lim)), (5, .t (.int .i64 n)), (6, .t (.int .i64 i))], s := ⟨[], 0⟩ }) (fun r i n => cntF lim n r = tot) 0 0 rfl hT rfl rfl rfl ?_ ?_
  · intro n hinv
    rw [cntF_nil] at hinv
    refine fR rfl ?_
    refine lM rfl rfl rfl ?_
    refine fM rfl ?_
    refine Run.condF rfl rfl (by simp) ?_
    refine fR rfl ?_
    refine Run.fin rfl (EndOk.go ?_); exact .t (by rw [← hinv])
  · intro i x r n h1 hi hd hinv ihl
    have hxm : x ∈ l := List.mem_of_getElem? h1
    have hx := hl.2 x hxm
    have hsz : SizeOf.sizeOf x.sels < SizeOf.sizeOf l := Nat.lt_trans (Sel.size_sels x) (List.sizeOf_lt_of_mem hxm)
    have hcall := ih (IntKind.i64.wrap (lim - n)) x.sels hsz (SelsOk.sub hx)
    unfold CntC at hcall
    refine fR rfl ?_
    refine lM rfl rfl rfl ?_
    refine fM rfl ?_
    by_cases hlt : n < lim
    · rw [cntF_lt hlt] at hinv
      refine Run.condT rfl rfl (by simp; omega) ?_
      refine fR rfl ?_
      refine Mid.elemMapC (Sel.enc_eq x) rfl rfl rfl h1 rfl rfl ?_
      refine fM rfl ?_
      refine lM rfl rfl rfl ?_
      refine p0 rfl ?_
      refine fM rfl ?_
      refine Mid.elemMapC (Sel.enc_eq x) rfl rfl rfl h1 rfl rfl ?_
      refine fM rfl ?_
      refine lM rfl rfl rfl ?_
      refine p0 rfl ?_
      refine fM rfl ?_
      refine Mid.elemMapC (Sel.enc_eq x) rfl rfl rfl h1 rfl rfl ?_
      refine fM rfl ?_
      refine p0 rfl ?_
      refine Mid.call (hcall) rfl rfl rfl rfl ?_
      refine p0 rfl ?_
      refine p0 rfl ?_
      refine fM rfl ?_
      refine aL rfl rfl rfl rfl rfl ?_
      refine fM rfl ?_
      exact rWeak 0 rfl (ihl (IntKind.i64.wrap (n + IntKind.i64.wrap (IntKind.i64.wrap (IntKind.i64.wrap (1 + (x.args.length : Nat)) + (x.dirs.length : Nat)) + cntF (IntKind.i64.wrap (lim - n)) 0 x.sels))) hinv) rfl rfl rfl
    · rw [cntF_ge hlt] at hinv
      refine Run.condF rfl rfl (by simp; omega) ?_
      refine fR rfl ?_
      refine Run.fin rfl (EndOk.go ?_); exact .t (by rw [← hinv])
theorem count_ok (H : Pr13 P) : ∀ (lim : Int) (l : List Sel) (hl : SelsOk l), CntC P lim l
  | lim, l, hl => count_step H lim l hl fun lim' l' h h1 => count_ok H lim' l' h1
termination_by lim l => SizeOf.sizeOf l
def lgO : Int → List Op → Option Int
  | n, [] => some n
  | n, o :: r => if (deepF 26 o.sels || decide ((o.vars.length : Int) > 30)) = true then none else lgO (IntKind.i64.wrap (n + cntF 300 0 o.sels)) r
def lgR : Int → List Frag → Option Int
  | n, [] => some n
  | n, o :: r => if deepF 26 o.sels = true then none else lgR (IntKind.i64.wrap (n + cntF 300 0 o.sels)) r
def largeQ (q : Query) : Bool :=
  (decide ((q.ops.length : Int) > 8) || decide ((q.frags.length : Int) > 12)) || (match lgO 0 q.ops with | none => true | some n => match lgR n q.frags with | none => true | some m => decide (m > 300))
theorem largeQ_ok (H : Pr13 P) (q : Query) (hq : q.Ok) : FnOk P 32 [q.v] ⟨[], 0⟩ { v := .t (.bool (largeQ q)) } := by
  have hfl := hq.fl
  have hol := hq.ol
  generalize hT : largeQ q = tot
  unfold largeQ at hT
  refine FnOk.run H.i32 H.mixed rfl rfl ?_
  refine fR rfl ?_
  refine lM rfl rfl rfl ?_
  refine fM rfl ?_
  refine lMG rfl rfl rfl rfl ?_
  refine fM rfl ?_
  refine Run.cond rfl rfl (fun h => ?_) (fun h => ?_)
  · rw [h] at hT
    refine fR rfl ?_
    refine Run.fin rfl (EndOk.go ?_); exact .t (by rw [← hT]; rfl)
  · rw [h] at hT
    simp only [Bool.false_or] at hT
    refine fR rfl ?_
    refine rList q.ops (fun i (n : Int) => { env := [(1, .ptr 0 0), (3, .t (.int .i64 n)), (4, .t (.int .i64 i))], s := ⟨[(0, .cells [.t (.lst (q.ops.map Op.enc)), .t (.lst (q.frags.map Frag.enc))])], 1⟩ }) (fun r i n => (match lgO n r with | none => true | some n => match lgR n q.frags with | none => true | some m => decide (m > 300)) = tot) 1 0 rfl hT rfl rfl rfl ?_ ?_
    · intro n hinv
      simp only [lgO] at hinv
      refine fR rfl ?_
      refine lM rfl rfl rfl ?_
      refine fM rfl ?_
      refine Run.condF rfl rfl (by simp) ?_
      refine fR rfl ?_
      refine rList q.frags (fun i (n : Int) => { env := [(1, .ptr 0 0), (3, .t (.int .i64 n)), (5, .t (.int .i64 i))], s := ⟨[(0, .cells [.t (.lst (q.ops.map Op.enc)), .t (.lst (q.frags.map Frag.enc))])], 1⟩ }) (fun r i n => (match lgR n r with | none => true | some m => decide (m > 300)) = tot) 1 n rfl hinv rfl rfl rfl ?_ ?_
      · intro n2 hinv2
        simp only [lgR] at hinv2
        refine fR rfl ?_
        refine lM rfl rfl rfl ?_
        refine fM rfl ?_
        refine Run.condF rfl rfl (by simp) ?_
        refine fR rfl ?_
        refine Run.fin rfl (EndOk.go ?_); exact .t (by rw [← hinv2])
      · intro i x r n2 h1 hi hd hinv2 ih
        have hxk := hq.f x (List.mem_of_getElem? h1)
        have hdc := deep_ok H 26 x.sels hxk.s
        have hcc := count_ok H 300 x.sels hxk.s
        unfold DeepC at hdc
        unfold CntC at hcc
        refine fR rfl ?_
        refine lM rfl rfl rfl ?_
        refine fM rfl ?_
        refine Run.condT rfl rfl (by simp; omega) ?_
        refine fR rfl ?_
        refine Mid.elemMap rfl rfl rfl h1 rfl rfl ?_
        refine fM rfl ?_
        refine Mid.call (hdc) rfl rfl rfl rfl ?_
        refine fM rfl ?_
        refine Run.cond rfl rfl (fun hc => ?_) (fun hc => ?_)
        · simp only [lgR, hc, if_true] at hinv2
          refine fR rfl ?_
          refine Run.fin rfl (EndOk.go ?_); exact .t (by rw [← hinv2])
        · simp only [lgR, hc, Bool.false_eq_true, if_false] at hinv2
          refine fR rfl ?_
          refine Mid.elemMap rfl rfl rfl h1 rfl rfl ?_
          refine fM rfl ?_
          refine Mid.call (hcc) rfl rfl rfl rfl ?_
          refine p0 rfl ?_
          refine fM rfl ?_
          refine aL rfl rfl rfl rfl rfl ?_
          refine fM rfl ?_
          exact rWeak 1 rfl (ih (IntKind.i64.wrap (n2 + cntF 300 0 x.sels)) hinv2) rfl rfl rfl
    · intro i x r n h1 hi hd hinv ih
      have hxk := hq.o x (List.mem_of_getElem? h1)
      have hdc := deep_ok H 26 x.sels hxk.s
      have hcc := count_ok H 300 x.sels hxk.s
      unfold DeepC at hdc
      unfold CntC at hcc
      refine fR rfl ?_
      refine lM rfl rfl rfl ?_
      refine fM rfl ?_
      refine Run.condT rfl rfl (by simp; omega) ?_
      refine fR rfl ?_
      refine Mid.elemMap rfl rfl rfl h1 rfl rfl ?_
      refine fM rfl ?_
      refine Mid.call (hdc) rfl rfl rfl rfl ?_
      refine fM rfl ?_
      refine elG rfl rfl rfl rfl h1 rfl rfl ?_
      refine fM rfl ?_
      refine lMG rfl rfl rfl rfl ?_
      refine fM rfl ?_
      refine Run.cond rfl rfl (fun hc => ?_) (fun hc => ?_)
      · simp only [lgO, hc, if_true] at hinv
        refine fR rfl ?_
        refine Run.fin rfl (EndOk.go ?_); exact .t (by rw [← hinv])
      · simp only [lgO, hc, Bool.false_eq_true, if_false] at hinv
        refine fR rfl ?_
        refine Mid.elemMap rfl rfl rfl h1 rfl rfl ?_
        refine fM rfl ?_
        refine Mid.call (hcc) rfl rfl rfl rfl ?_
        refine p0 rfl ?_
        refine fM rfl ?_
        refine aL rfl rfl rfl rfl rfl ?_
        refine fM rfl ?_
        exact rWeak 1 rfl (ih (IntKind.i64.wrap (n + cntF 300 0 x.sels)) hinv) rfl rfl rfl
end Go.GB.C11


/-
  E13H: chapter 13's functions: right documents.
-/
namespace Go.GB.C11
open Go.GB
set_option linter.unusedSimpArgs false
set_option linter.unusedVariables false
set_option maxRecDepth 100000
set_option maxHeartbeats 4000000
variable {P : Program}

/- values -/
def szV (v : Val) : Int := v.items.attach.foldl (fun n x => IntKind.i64.wrap (n + szV x.1)) 1
termination_by SizeOf.sizeOf v
decreasing_by exact Val.size_items v x.2
def dpV (v : Val) : Int := IntKind.i64.wrap (v.items.attach.foldl (fun n x => if dpV x.1 > n then dpV x.1 else n) 0 + 1)
termination_by SizeOf.sizeOf v
decreasing_by all_goals exact Val.size_items v x.2
def twS : List Str → List Str → Bool
  | _, [] => false
  | p, s :: r => decide (s ∈ p) || twS (p ++ [s]) r
def conV (v : Val) : Bool := v.items.attach.all (fun x => conV x.1) && v.kind != 7
termination_by SizeOf.sizeOf v
decreasing_by exact Val.size_items v x.2
theorem szV_eq (v : Val) : szV v = v.items.foldl (fun n x => IntKind.i64.wrap (n + szV x)) 1 := by
  rw [szV]; exact List.foldl_attach (l := v.items) (f := fun n x => IntKind.i64.wrap (n + szV x)) (b := 1)
theorem dpV_eq (v : Val) : dpV v = IntKind.i64.wrap (v.items.foldl (fun n x => if dpV x > n then dpV x else n) 0 + 1) := by
  rw [dpV]; rw [List.foldl_attach (l := v.items) (f := fun n x => if dpV x > n then dpV x else n) (b := 0)]
theorem conV_eq (v : Val) : conV v = (v.items.all conV && v.kind != 7) := by
  rw [conV]; congr 1
  rw [Bool.eq_iff_iff]; simp [List.all_eq_true]
def SzC (P : Program) (v : Val) : Prop := FnOk P 159 [v.v] ⟨[], 0⟩ { v := .t (.int .i64 (szV v)) }
theorem size02_step (H : Pr13 P) (v : Val) (hv : v.Ok) (ih : ∀ x, x ∈ v.items → SzC P x) : SzC P v := by
  have hil := hv.il
  unfold SzC
  rw [szV_eq]
  refine FnOk.run H.i159 H.mixed rfl rfl ?_
  refine fR rfl ?_
  refine rList v.items (fun i (n : Int) => { env := [(1, .ptr 0 0), (3, .t (.int .i64 n)), (4, .t (.int .i64 i))], s := ⟨[(0, .cells [.t (.int .i64 v.kind), .t (.int .i64 v.int), .t (.str v.text), .t (.lst (v.items.map Val.enc)), .t (.lst (v.keys.map sE))])], 1⟩ }) (fun r i n => v.items.foldl (fun n x => IntKind.i64.wrap (n + szV x)) 1 = r.foldl (fun n x => IntKind.i64.wrap (n + szV x)) n) 1 1 rfl rfl rfl rfl rfl ?_ ?_
  · intro n hinv
    refine fR rfl ?_
    refine lM rfl rfl rfl ?_
    refine fM rfl ?_
    refine Run.condF rfl rfl (by simp) ?_
    refine fR rfl ?_
    refine Run.fin rfl (EndOk.go ?_); exact .t (by rw [hinv]; rfl)
  · intro i x r n h1 hi hd hinv ihl
    have hcall := ih x (List.mem_of_getElem? h1)
    unfold SzC at hcall
    refine fR rfl ?_
    refine lM rfl rfl rfl ?_
    refine fM rfl ?_
    refine Run.condT rfl rfl (by simp; omega) ?_
    refine fR rfl ?_
    refine Mid.elemMapC (Val.enc_eq x) rfl rfl rfl h1 rfl rfl ?_
    refine fM rfl ?_
    refine Mid.call (hcall) rfl rfl rfl rfl ?_
    refine p0 rfl ?_
    refine fM rfl ?_
    refine aL rfl rfl rfl rfl rfl ?_
    refine fM rfl ?_
    exact rWeak 1 rfl (ihl (IntKind.i64.wrap (n + szV x)) hinv) rfl rfl rfl
theorem size02_ok (H : Pr13 P) : ∀ (v : Val), v.Ok → SzC P v
  | v, hv => size02_step H v hv fun x hx => size02_ok H x (hv.it x hx)
termination_by v => SizeOf.sizeOf v
decreasing_by exact Val.size_items v hx
def DpC (P : Program) (v : Val) : Prop := FnOk P 179 [v.v] ⟨[], 0⟩ { v := .t (.int .i64 (dpV v)) }
theorem depth02_step (H : Pr13 P) (v : Val) (hv : v.Ok) (ih : ∀ x, x ∈ v.items → DpC P x) : DpC P v := by
  have hil := hv.il
  unfold DpC
  rw [dpV_eq]
  refine FnOk.run H.i179 H.mixed rfl rfl ?_
  refine fR rfl ?_
  refine rList v.items (fun i (n : Int) => { env := [(1, .ptr 0 0), (3, .t (.int .i64 n)), (4, .t (.int .i64 i))], s := ⟨[(0, .cells [.t (.int .i64 v.kind), .t (.int .i64 v.int), .t (.str v.text), .t (.lst (v.items.map Val.enc)), .t (.lst (v.keys.map sE))])], 1⟩ }) (fun r i n => v.items.foldl (fun n x => if dpV x > n then dpV x else n) 0 = r.foldl (fun n x => if dpV x > n then dpV x else n) n) 1 0 rfl rfl rfl rfl rfl ?_ ?_
  · intro n hinv
    refine fR rfl ?_
    refine lM rfl rfl rfl ?_
    refine fM rfl ?_
    refine Run.condF rfl rfl (by simp) ?_
    refine fR rfl ?_
    refine p0 rfl ?_
    refine fM rfl ?_
    refine Run.fin rfl (EndOk.go ?_); exact .t (by rw [hinv]; rfl)
  · intro i x r n h1 hi hd hinv ihl
    have hcall := ih x (List.mem_of_getElem? h1)
    unfold DpC at hcall
    refine fR rfl ?_
    refine lM rfl rfl rfl ?_
    refine fM rfl ?_
    refine Run.condT rfl rfl (by simp; omega) ?_
    refine fR rfl ?_
    refine Mid.elemMapC (Val.enc_eq x) rfl rfl rfl h1 rfl rfl ?_
    refine fM rfl ?_
    refine Mid.call (hcall) rfl rfl rfl rfl ?_
    refine fM rfl ?_
    refine aL rfl rfl rfl rfl rfl ?_
    refine fM rfl ?_
    exact rWeak 1 rfl (ihl (if dpV x > n then dpV x else n) hinv) rfl rfl rfl
theorem depth02_ok (H : Pr13 P) : ∀ (v : Val), v.Ok → DpC P v
  | v, hv => depth02_step H v hv fun x hx => depth02_ok H x (hv.it x hx)
termination_by v => SizeOf.sizeOf v
decreasing_by exact Val.size_items v hx
def ConC (P : Program) (v : Val) : Prop := FnOk P 165 [v.v] ⟨[], 0⟩ { v := .t (.bool (conV v)) }
theorem constant_step (H : Pr13 P) (v : Val) (hv : v.Ok) (ih : ∀ x, x ∈ v.items → ConC P x) : ConC P v := by
  have hil := hv.il
  unfold ConC
  rw [conV_eq]
  refine FnOk.run H.i165 H.mixed rfl rfl ?_
  refine fR rfl ?_
  refine rList v.items (fun i (_ : Unit) => { env := [(1, .ptr 0 0), (3, .t (.int .i64 i))], s := ⟨[(0, .cells [.t (.int .i64 v.kind), .t (.int .i64 v.int), .t (.str v.text), .t (.lst (v.items.map Val.enc)), .t (.lst (v.keys.map sE))])], 1⟩ }) (fun r i _ => v.items.all conV = r.all conV) 1 () rfl rfl rfl rfl rfl ?_ ?_
  · intro _ hinv
    refine fR rfl ?_
    refine lM rfl rfl rfl ?_
    refine fM rfl ?_
    refine Run.condF rfl rfl (by simp) ?_
    refine fR rfl ?_
    refine Run.fin rfl (EndOk.go ?_); exact .t (by rw [hinv]; rfl)
  · intro i x r _ h1 hi hd hinv ihl
    have hcall := ih x (List.mem_of_getElem? h1)
    unfold ConC at hcall
    refine fR rfl ?_
    refine lM rfl rfl rfl ?_
    refine fM rfl ?_
    refine Run.condT rfl rfl (by simp; omega) ?_
    refine fR rfl ?_
    refine Mid.elemMapC (Val.enc_eq x) rfl rfl rfl h1 rfl rfl ?_
    refine fM rfl ?_
    refine Mid.call (hcall) rfl rfl rfl rfl ?_
    refine fM rfl ?_
    refine Run.cond rfl rfl (fun hc => ?_) (fun hc => ?_)
    · have hc' : conV x = false := by simpa using hc
      refine fR rfl ?_
      refine Run.fin rfl (EndOk.go ?_); exact .t (by rw [hinv, List.all_cons, hc']; rfl)
    · have hc' : conV x = true := by simpa using hc
      refine fR rfl ?_
      refine aL rfl rfl rfl rfl rfl ?_
      refine fM rfl ?_
      exact rWeak 1 rfl (ihl () (by rw [hinv, List.all_cons, hc']; rfl)) rfl rfl rfl
theorem constant_ok (H : Pr13 P) : ∀ (v : Val), v.Ok → ConC P v
  | v, hv => constant_step H v hv fun x hx => constant_ok H x (hv.it x hx)
termination_by v => SizeOf.sizeOf v
decreasing_by exact Val.size_items v hx
theorem twS_mem (p : List Str) (l : List Str) : ∀ {i : Nat} {x : Str} {r : List Str}, l[i]? = some x → l.drop i = x :: r → twS (l.take i) (x :: r) = (decide (x ∈ l.take i) || twS (l.take (i + 1)) r) := by
  intro i x r h1 h2
  have htk : l.take i ++ [x] = l.take (i + 1) := by rw [List.take_add_one, h1]; rfl
  rw [← htk]; rfl
theorem twice02_ok (H : Pr13 P) (l : List Str) (hl : l.length ≤ 140737488355328) : FnOk P 191 [.t (.lst (l.map sE))] ⟨[], 0⟩ { v := .t (.bool (twS [] l)) } := by
  generalize hT : twS [] l = tot
  refine FnOk.run H.i191 H.mixed rfl rfl ?_
  refine fR rfl ?_
  refine rList l (fun i (_ : Unit) => { env := [(0, .t (.lst (l.map sE))), (3, .t (.int .i64 i))], s := ⟨[], 0⟩ }) (fun r i _ => l.drop i = r ∧ twS (l.take i) r = tot) 0 () rfl ⟨rfl, hT⟩ rfl rfl rfl ?_ ?_
  · rintro _ ⟨_, hinv⟩
    refine fR rfl ?_
    refine lM rfl rfl rfl ?_
    refine fM rfl ?_
    refine Run.condF rfl rfl (by simp) ?_
    refine fR rfl ?_
    refine Run.fin rfl (EndOk.go ?_); exact .t (by rw [← hinv]; rfl)
  · rintro i x r _ h1 hi hd ⟨hdr, hinv⟩ ih
    rw [twS_mem [] l h1 hdr] at hinv
    have hdr' : l.drop (i + 1) = r := by rw [← List.drop_drop, hdr]; rfl
    refine fR rfl ?_
    refine lM rfl rfl rfl ?_
    refine fM rfl ?_
    refine Run.condT rfl rfl (by simp; omega) ?_
    refine fR rfl ?_
    refine rList (l.take i) (fun k (_ : Unit) => { env := [(0, .t (.lst (l.map sE))), (3, .t (.int .i64 i)), (4, .t (.int .i64 k))], s := ⟨[], 0⟩ }) (fun r k _ => decide (x ∈ l.take i) = decide (x ∈ r)) 0 () rfl rfl rfl rfl rfl ?_ ?_
    · intro _ hinv2
      have hnot : decide (x ∈ l.take i) = false := by rw [hinv2]; simp
      rw [hnot] at hinv
      have htl : (l.take i).length = i := by rw [List.length_take]; omega
      refine fR rfl ?_
      refine Run.condF rfl rfl (by simp [htl]) ?_
      refine fR rfl ?_
      refine aL rfl rfl rfl rfl rfl ?_
      refine fM rfl ?_
      exact rWeak 0 rfl (ih () ⟨hdr', by simpa using hinv⟩) rfl rfl rfl
    · intro k y r2 _ g1 gi gd hinv2 ih2
      have htl : (l.take i).length = i := by rw [List.length_take]; omega
      have g1' : l[k]? = some y := by
        rw [List.getElem?_take] at g1
        split at g1
        · exact g1
        · cases g1
      refine fR rfl ?_
      refine Run.condT rfl rfl (by simp; omega) ?_
      refine fR rfl ?_
      refine Mid.elemMap rfl rfl rfl h1 rfl rfl ?_
      refine fM rfl ?_
      refine Mid.elemMap rfl rfl rfl g1' rfl rfl ?_
      refine fM rfl ?_
      refine Run.cond rfl rfl (fun hc => ?_) (fun hc => ?_)
      · have hc' : x = y := by simpa using hc
        have hm : decide (x ∈ l.take i) = true := by rw [hinv2]; simp [hc']
        rw [hm] at hinv
        refine fR rfl ?_
        refine Run.fin rfl (EndOk.go ?_); exact .t (by rw [← hinv]; rfl)
      · have hc' : ¬ x = y := by simpa using hc
        refine fR rfl ?_
        refine aL rfl rfl rfl rfl rfl ?_
        refine fM rfl ?_
        exact rWeak 0 rfl (ih2 () (by rw [hinv2]; simp [hc'])) rfl rfl rfl
end Go.GB.C11


/-
  E13I: chapter 13's functions: right documents.
-/
namespace Go.GB.C11
open Go.GB
set_option linter.unusedSimpArgs false
set_option linter.unusedVariables false
set_option maxRecDepth 100000
set_option maxHeartbeats 4000000
variable {P : Program}

def nodeV (v : Val) (lit : Bool) : Bool :=
  if (v.kind == 0) = true then (((v.int == 0 && v.text == []) && (v.items.length : Int) == 0) && (v.keys.length : Int) == 0)
  else if (v.kind == 1) = true then ((((v.int == 0 || v.int == 1) && v.text == []) && (v.items.length : Int) == 0) && (v.keys.length : Int) == 0)
  else if (v.kind == 2) = true then ((v.text == [] && (v.items.length : Int) == 0) && (v.keys.length : Int) == 0)
  else if (v.kind == 3) = true then ((v.int == 0 && (v.items.length : Int) == 0) && (v.keys.length : Int) == 0)
  else if (v.kind == 4) = true then ((((((v.int == 0 && (v.items.length : Int) == 0) && (v.keys.length : Int) == 0) && nameF v.text) && v.text != [116, 114, 117, 101]) && v.text != [102, 97, 108, 115, 101]) && v.text != [110, 117, 108, 108])
  else if (v.kind == 5) = true then ((v.int == 0 && v.text == []) && (v.keys.length : Int) == 0)
  else if (v.kind == 6) = true then (((v.int == 0 && v.text == []) && (v.keys.length : Int) == (v.items.length : Int)) && !twS [] v.keys)
  else if (v.kind == 7) = true then ((((lit && v.int == 0) && (v.items.length : Int) == 0) && (v.keys.length : Int) == 0) && nameF v.text)
  else false
theorem node02_ok (H : Pr13 P) (v : Val) (hv : v.Ok) (lit : Bool) : FnOk P 190 [v.v, .t (.bool lit)] ⟨[], 0⟩ { v := .t (.bool (nodeV v lit)) } := by
  have hkl := hv.kl
  have htl := hv.tl
  generalize hT : nodeV v lit = tot
  unfold nodeV at hT
  refine FnOk.run H.i190 H.mixed rfl rfl ?_
  refine fR rfl ?_
  refine Run.cond rfl rfl (fun h0 => ?_) (fun h0 => ?_)
  · rw [if_pos h0] at hT
    refine fR rfl ?_
    refine lMG rfl rfl rfl rfl ?_
    refine fM rfl ?_
    refine lMG rfl rfl rfl rfl ?_
    refine fM rfl ?_
    refine Run.fin rfl (EndOk.go ?_); exact .t (by rw [← hT])
  · rw [if_neg (by rw [h0]; simp)] at hT
    refine fR rfl ?_
    refine Run.cond rfl rfl (fun h1 => ?_) (fun h1 => ?_)
    · rw [if_pos h1] at hT
      refine fR rfl ?_
      refine lMG rfl rfl rfl rfl ?_
      refine fM rfl ?_
      refine lMG rfl rfl rfl rfl ?_
      refine fM rfl ?_
      refine Run.fin rfl (EndOk.go ?_); exact .t (by rw [← hT])
    · rw [if_neg (by rw [h1]; simp)] at hT
      refine fR rfl ?_
      refine Run.cond rfl rfl (fun h2 => ?_) (fun h2 => ?_)
      · rw [if_pos h2] at hT
        refine fR rfl ?_
        refine lMG rfl rfl rfl rfl ?_
        refine fM rfl ?_
        refine lMG rfl rfl rfl rfl ?_
        refine fM rfl ?_
        refine Run.fin rfl (EndOk.go ?_); exact .t (by rw [← hT])
      · rw [if_neg (by rw [h2]; simp)] at hT
        refine fR rfl ?_
        refine Run.cond rfl rfl (fun h3 => ?_) (fun h3 => ?_)
        · rw [if_pos h3] at hT
          refine fR rfl ?_
          refine lMG rfl rfl rfl rfl ?_
          refine fM rfl ?_
          refine lMG rfl rfl rfl rfl ?_
          refine fM rfl ?_
          refine Run.fin rfl (EndOk.go ?_); exact .t (by rw [← hT])
        · rw [if_neg (by rw [h3]; simp)] at hT
          refine fR rfl ?_
          refine Run.cond rfl rfl (fun h4 => ?_) (fun h4 => ?_)
          · rw [if_pos h4] at hT
            refine fR rfl ?_
            refine lMG rfl rfl rfl rfl ?_
            refine fM rfl ?_
            refine lMG rfl rfl rfl rfl ?_
            refine fM rfl ?_
            refine caG rfl rfl (fun hg => ⟨_, rfl, name_ok H.toPr v.text htl, rfl⟩) rfl rfl ?_
            refine fM rfl ?_
            refine Run.fin rfl (EndOk.go ?_); exact .t (by rw [← hT]; rfl)
          · rw [if_neg (by rw [h4]; simp)] at hT
            refine fR rfl ?_
            refine Run.cond rfl rfl (fun h5 => ?_) (fun h5 => ?_)
            · rw [if_pos h5] at hT
              refine fR rfl ?_
              refine lMG rfl rfl rfl rfl ?_
              refine fM rfl ?_
              refine Run.fin rfl (EndOk.go ?_); exact .t (by rw [← hT])
            · rw [if_neg (by rw [h5]; simp)] at hT
              refine fR rfl ?_
              refine Run.cond rfl rfl (fun h6 => ?_) (fun h6 => ?_)
              · rw [if_pos h6] at hT
                refine fR rfl ?_
                refine lMG rfl rfl rfl rfl ?_
                refine fM rfl ?_
                refine lMG rfl rfl rfl rfl ?_
                refine fM rfl ?_
                refine caG rfl rfl (fun hg => ⟨_, rfl, twice02_ok H v.keys (by omega), rfl⟩) rfl rfl ?_
                refine fM rfl ?_
                refine Run.fin rfl (EndOk.go ?_); exact .t (by rw [← hT])
              · rw [if_neg (by rw [h6]; simp)] at hT
                refine fR rfl ?_
                refine Run.cond rfl rfl (fun h7 => ?_) (fun h7 => ?_)
                · rw [if_pos h7] at hT
                  refine fR rfl ?_
                  refine lMG rfl rfl rfl rfl ?_
                  refine fM rfl ?_
                  refine lMG rfl rfl rfl rfl ?_
                  refine fM rfl ?_
                  refine caG rfl rfl (fun hg => ⟨_, rfl, name_ok H.toPr v.text htl, rfl⟩) rfl rfl ?_
                  refine fM rfl ?_
                  refine Run.fin rfl (EndOk.go ?_); exact .t (by rw [← hT])
                · rw [if_neg (by rw [h7]; simp)] at hT
                  refine fR rfl ?_
                  refine Run.fin rfl (EndOk.go ?_); exact .t (by rw [← hT])
def whlV (lit : Bool) (v : Val) : Bool := nodeV v lit && (v.keys.all (fun k => !(lit && !nameF k)) && v.items.attach.all (fun x => whlV lit x.1))
termination_by SizeOf.sizeOf v
decreasing_by exact Val.size_items v x.2
theorem whlV_eq (lit : Bool) (v : Val) : whlV lit v = (nodeV v lit && (v.keys.all (fun k => !(lit && !nameF k)) && v.items.all (whlV lit))) := by
  rw [whlV]; congr 2
  rw [Bool.eq_iff_iff]; simp [List.all_eq_true]
def WhC (P : Program) (lit : Bool) (v : Val) : Prop := FnOk P 180 [v.v, .t (.bool lit)] ⟨[], 0⟩ { v := .t (.bool (whlV lit v)) }
theorem whole02_step (H : Pr13 P) (lit : Bool) (v : Val) (hv : v.Ok) (ih : ∀ x, x ∈ v.items → WhC P lit x) : WhC P lit v := by
  have hil := hv.il
  have hkl := hv.kl
  unfold WhC
  rw [whlV_eq]
  refine FnOk.run H.i180 H.mixed rfl rfl ?_
  refine fR rfl ?_
  refine Mid.call (node02_ok H v hv lit) rfl rfl rfl rfl ?_
  refine fM rfl ?_
  refine Run.cond rfl rfl (fun h0 => ?_) (fun h0 => ?_)
  · have h0' : nodeV v lit = false := by simpa using h0
    refine fR rfl ?_
    refine Run.fin rfl (EndOk.go ?_); exact .t (by rw [h0']; rfl)
  · have h0' : nodeV v lit = true := by simpa using h0
    rw [h0', Bool.true_and]
    refine fR rfl ?_
    refine rList v.keys (fun i (_ : Unit) => { env := [(1, .t (.bool lit)), (2, .ptr 0 0), (5, .t (.int .i64 i))], s := ⟨[(0, .cells [.t (.int .i64 v.kind), .t (.int .i64 v.int), .t (.str v.text), .t (.lst (v.items.map Val.enc)), .t (.lst (v.keys.map sE))])], 1⟩ }) (fun r i _ => v.keys.all (fun k => !(lit && !nameF k)) = r.all (fun k => !(lit && !nameF k))) 1 () rfl rfl rfl rfl rfl ?_ ?_
    · intro _ hk
      have hk' : v.keys.all (fun k => !(lit && !nameF k)) = true := by rw [hk]; rfl
      rw [hk', Bool.true_and]
      refine fR rfl ?_
      refine lM rfl rfl rfl ?_
      refine fM rfl ?_
      refine Run.condF rfl rfl (by simp) ?_
      refine fR rfl ?_
      refine rList v.items (fun i (_ : Unit) => { env := [(1, .t (.bool lit)), (2, .ptr 0 0), (6, .t (.int .i64 i))], s := ⟨[(0, .cells [.t (.int .i64 v.kind), .t (.int .i64 v.int), .t (.str v.text), .t (.lst (v.items.map Val.enc)), .t (.lst (v.keys.map sE))])], 1⟩ }) (fun r i _ => v.items.all (whlV lit) = r.all (whlV lit)) 1 () rfl rfl rfl rfl rfl ?_ ?_
      · intro _ hinv
        refine fR rfl ?_
        refine lM rfl rfl rfl ?_
        refine fM rfl ?_
        refine Run.condF rfl rfl (by simp) ?_
        refine fR rfl ?_
        refine Run.fin rfl (EndOk.go ?_); exact .t (by rw [hinv]; rfl)
      · intro i x r _ h1 hi hd hinv ihl
        have hcall := ih x (List.mem_of_getElem? h1)
        unfold WhC at hcall
        refine fR rfl ?_
        refine lM rfl rfl rfl ?_
        refine fM rfl ?_
        refine Run.condT rfl rfl (by simp; omega) ?_
        refine fR rfl ?_
        refine Mid.elemMapC (Val.enc_eq x) rfl rfl rfl h1 rfl rfl ?_
        refine fM rfl ?_
        refine Mid.call (hcall) rfl rfl rfl rfl ?_
        refine fM rfl ?_
        refine Run.cond rfl rfl (fun hc => ?_) (fun hc => ?_)
        · have hc' : whlV lit x = false := by simpa using hc
          refine fR rfl ?_
          refine Run.fin rfl (EndOk.go ?_); exact .t (by rw [hinv, List.all_cons, hc']; rfl)
        · have hc' : whlV lit x = true := by simpa using hc
          refine fR rfl ?_
          refine aL rfl rfl rfl rfl rfl ?_
          refine fM rfl ?_
          exact rWeak 1 rfl (ihl () (by rw [hinv, List.all_cons, hc']; rfl)) rfl rfl rfl
    · intro i x r _ h1 hi hd hinv ihl
      have hxl := hv.kt x (List.mem_of_getElem? h1)
      refine fR rfl ?_
      refine lM rfl rfl rfl ?_
      refine fM rfl ?_
      refine Run.condT rfl rfl (by simp; omega) ?_
      refine fR rfl ?_
      refine elG rfl rfl rfl rfl h1 rfl rfl ?_
      refine fM rfl ?_
      refine caG rfl rfl (fun hg => ⟨_, rfl, name_ok H.toPr x hxl, rfl⟩) rfl rfl ?_
      refine fM rfl ?_
      refine Run.cond rfl rfl (fun hc => ?_) (fun hc => ?_)
      · refine fR rfl ?_
        refine Run.fin rfl (EndOk.go ?_); exact .t (by rw [hinv, List.all_cons, hc]; rfl)
      · refine fR rfl ?_
        refine aL rfl rfl rfl rfl rfl ?_
        refine fM rfl ?_
        exact rWeak 1 rfl (ihl () (by rw [hinv, List.all_cons, hc]; rfl)) rfl rfl rfl
theorem whole02_ok (H : Pr13 P) (lit : Bool) : ∀ (v : Val), v.Ok → WhC P lit v
  | v, hv => whole02_step H lit v hv fun x hx => whole02_ok H lit x (hv.it x hx)
termination_by v => SizeOf.sizeOf v
decreasing_by exact Val.size_items v hx
def litV (v : Val) : Bool := (decide (szV v ≤ 4096) && decide (dpV v ≤ 24)) && whlV true v
theorem literal_ok (H : Pr13 P) (v : Val) (hv : v.Ok) : FnOk P 164 [v.v] ⟨[], 0⟩ { v := .t (.bool (litV v)) } := by
  have h1 := size02_ok H v hv
  have h2 := depth02_ok H v hv
  have h3 := whole02_ok H true v hv
  unfold SzC at h1
  unfold DpC at h2
  unfold WhC at h3
  refine FnOk.run H.i164 H.mixed rfl rfl ?_
  refine fR rfl ?_
  refine Mid.call (h1) rfl rfl rfl rfl ?_
  refine fM rfl ?_
  refine caG rfl rfl (fun hg => ⟨_, rfl, h2, rfl⟩) rfl rfl ?_
  refine fM rfl ?_
  refine caG rfl rfl (fun hg => ⟨_, rfl, h3, rfl⟩) rfl rfl ?_
  refine fM rfl ?_
  refine Run.fin rfl (EndOk.go ?_); exact .t rfl
def argBad (a : Arg) : Bool := !nameF a.name || !litV a.val
def argsR (l : List Arg) : Bool := !l.any argBad && decide ((l.length : Int) ≤ 16)
theorem argsR_ok (H : Pr13 P) (l : List Arg) (hl : l.length ≤ 140737488355328) (ha : ∀ x, x ∈ l → x.Ok) (hn : ∀ x, x ∈ l → x.name.length ≤ 140737488355328) : FnOk P 182 [.t (.lst (l.map Arg.enc))] ⟨[], 0⟩ { v := .t (.bool (argsR l)) } := by
  generalize hT : argsR l = tot
  unfold argsR at hT
  refine FnOk.run H.i182 H.mixed rfl rfl ?_
  refine fR rfl ?_
  refine rList l (fun i (_ : Unit) => { env := [(0, .t (.lst (l.map Arg.enc))), (3, .t (.int .i64 i))], s := ⟨[], 0⟩ }) (fun r i _ => (!r.any argBad && decide ((l.length : Int) ≤ 16)) = tot) 0 () rfl hT rfl rfl rfl ?_ ?_
  · intro _ hinv
    refine fR rfl ?_
    refine lM rfl rfl rfl ?_
    refine fM rfl ?_
    refine Run.condF rfl rfl (by simp) ?_
    refine fR rfl ?_
    refine lM rfl rfl rfl ?_
    refine fM rfl ?_
    refine Run.fin rfl (EndOk.go ?_); exact .t (by rw [← hinv]; simp)
  · intro i x r _ h1 hi hd hinv ih
    have hxm := List.mem_of_getElem? h1
    have hxn := hn x hxm
    refine fR rfl ?_
    refine lM rfl rfl rfl ?_
    refine fM rfl ?_
    refine Run.condT rfl rfl (by simp; omega) ?_
    refine fR rfl ?_
    refine Mid.elemMap rfl rfl rfl h1 rfl rfl ?_
    refine fM rfl ?_
    refine Mid.call (name_ok H.toPr x.name hxn) rfl rfl rfl rfl ?_
    refine fM rfl ?_
    refine elG rfl rfl rfl rfl h1 rfl rfl ?_
    refine fM rfl ?_
    refine caG rfl rfl (fun hg => ⟨_, rfl, literal_ok H x.val (ha x hxm), rfl⟩) rfl rfl ?_
    refine fM rfl ?_
    refine Run.cond rfl rfl (fun hc => ?_) (fun hc => ?_)
    · have hc' : argBad x = true := hc
      refine fR rfl ?_
      refine Run.fin rfl (EndOk.go ?_); exact .t (by rw [← hinv, List.any_cons, hc']; rfl)
    · have hc' : argBad x = false := hc
      refine fR rfl ?_
      refine aL rfl rfl rfl rfl rfl ?_
      refine fM rfl ?_
      exact rWeak 0 rfl (ih () (by rw [← hinv, List.any_cons, hc']; rfl)) rfl rfl rfl
def dirBad (d : Dir) : Bool := !nameF d.name || !argsR d.args
def dirsR (l : List Dir) : Bool := !l.any dirBad && decide ((l.length : Int) ≤ 16)
theorem dirsR_ok (H : Pr13 P) (l : List Dir) (hl : l.length ≤ 140737488355328) (ha : ∀ x, x ∈ l → x.Ok ∧ ∀ y, y ∈ x.args → y.name.length ≤ 140737488355328) : FnOk P 181 [.t (.lst (l.map Dir.enc))] ⟨[], 0⟩ { v := .t (.bool (dirsR l)) } := by
  generalize hT : dirsR l = tot
  unfold dirsR at hT
  refine FnOk.run H.i181 H.mixed rfl rfl ?_
  refine fR rfl ?_
  refine rList l (fun i (_ : Unit) => { env := [(0, .t (.lst (l.map Dir.enc))), (3, .t (.int .i64 i))], s := ⟨[], 0⟩ }) (fun r i _ => (!r.any dirBad && decide ((l.length : Int) ≤ 16)) = tot) 0 () rfl hT rfl rfl rfl ?_ ?_
  · intro _ hinv
    refine fR rfl ?_
    refine lM rfl rfl rfl ?_
    refine fM rfl ?_
    refine Run.condF rfl rfl (by simp) ?_
    refine fR rfl ?_
    refine lM rfl rfl rfl ?_
    refine fM rfl ?_
    refine Run.fin rfl (EndOk.go ?_); exact .t (by rw [← hinv]; simp)
  · intro i x r _ h1 hi hd hinv ih
    have hxm := List.mem_of_getElem? h1
    have hx := ha x hxm
    have hxn := hx.1.nm
    refine fR rfl ?_
    refine lM rfl rfl rfl ?_
    refine fM rfl ?_
    refine Run.condT rfl rfl (by simp; omega) ?_
    refine fR rfl ?_
    refine Mid.elemMap rfl rfl rfl h1 rfl rfl ?_
    refine fM rfl ?_
    refine Mid.call (name_ok H.toPr x.name hxn) rfl rfl rfl rfl ?_
    refine fM rfl ?_
    refine elG rfl rfl rfl rfl h1 rfl rfl ?_
    refine fM rfl ?_
    refine caG rfl rfl (fun hg => ⟨_, rfl, argsR_ok H x.args hx.1.l hx.1.a hx.2, rfl⟩) rfl rfl ?_
    refine fM rfl ?_
    refine Run.cond rfl rfl (fun hc => ?_) (fun hc => ?_)
    · have hc' : dirBad x = true := hc
      refine fR rfl ?_
      refine Run.fin rfl (EndOk.go ?_); exact .t (by rw [← hinv, List.any_cons, hc']; rfl)
    · have hc' : dirBad x = false := hc
      refine fR rfl ?_
      refine aL rfl rfl rfl rfl rfl ?_
      refine fM rfl ?_
      exact rWeak 0 rfl (ih () (by rw [← hinv, List.any_cons, hc']; rfl)) rfl rfl rfl
def titF (s : Str) : Bool := nameF s && s != [111, 110]
theorem title_ok (H : Pr13 P) (s : Str) (hs : s.length ≤ 140737488355328) : FnOk P 130 [.t (.str s)] ⟨[], 0⟩ { v := .t (.bool (titF s)) } := by
  refine FnOk.run H.i130 H.mixed rfl rfl ?_
  refine fR rfl ?_
  refine Mid.call (name_ok H.toPr s hs) rfl rfl rfl rfl ?_
  refine fM rfl ?_
  refine Run.fin rfl (EndOk.go ?_); exact .t rfl
def varBad (x : Var) : Bool := ((!nameF x.name || !rightF x.ty) || !litV x.dflt) || !conV x.dflt
def varBad2 (x : Var) : Bool := !x.has && x.dflt.kind != 0
def varsR (l : List Var) : Bool := !l.any (fun x => varBad x || varBad2 x) && decide ((l.length : Int) ≤ 16)
theorem varsR_ok (H : Pr13 P) (l : List Var) (hl : l.length ≤ 140737488355328) (ha : ∀ x, x ∈ l → x.Ok) : FnOk P 128 [.t (.lst (l.map Var.enc))] ⟨[], 0⟩ { v := .t (.bool (varsR l)) } := by
  generalize hT : varsR l = tot
  unfold varsR at hT
  refine FnOk.run H.i128 H.mixed rfl rfl ?_
  refine fR rfl ?_
  refine rList l (fun i (_ : Unit) => { env := [(0, .t (.lst (l.map Var.enc))), (3, .t (.int .i64 i))], s := ⟨[], 0⟩ }) (fun r i _ => (!r.any (fun x => varBad x || varBad2 x) && decide ((l.length : Int) ≤ 16)) = tot) 0 () rfl hT rfl rfl rfl ?_ ?_
  · intro _ hinv
    refine fR rfl ?_
    refine lM rfl rfl rfl ?_
    refine fM rfl ?_
    refine Run.condF rfl rfl (by simp) ?_
    refine fR rfl ?_
    refine lM rfl rfl rfl ?_
    refine fM rfl ?_
    refine Run.fin rfl (EndOk.go ?_); exact .t (by rw [← hinv]; simp)
  · intro i x r _ h1 hi hd hinv ih
    have hxm := List.mem_of_getElem? h1
    have hx := ha x hxm
    have hxn := hx.nm
    have hcon := constant_ok H x.dflt hx.v
    unfold ConC at hcon
    refine fR rfl ?_
    refine lM rfl rfl rfl ?_
    refine fM rfl ?_
    refine Run.condT rfl rfl (by simp; omega) ?_
    refine fR rfl ?_
    refine Mid.elemMap rfl rfl rfl h1 rfl rfl ?_
    refine fM rfl ?_
    refine Mid.call (name_ok H.toPr x.name hxn) rfl rfl rfl rfl ?_
    refine fM rfl ?_
    refine caG rfl rfl (fun hg => ⟨_, rfl, right_ok H.toPr x.ty hx.t, rfl⟩) rfl rfl ?_
    refine fM rfl ?_
    refine caG rfl rfl (fun hg => ⟨_, rfl, literal_ok H x.dflt hx.v, rfl⟩) rfl rfl ?_
    refine fM rfl ?_
    refine caG rfl rfl (fun hg => ⟨_, rfl, hcon, rfl⟩) rfl rfl ?_
    refine fM rfl ?_
    refine Run.cond rfl rfl (fun hc => ?_) (fun hc => ?_)
    · have hc' : varBad x = true := hc
      refine fR rfl ?_
      refine Run.fin rfl (EndOk.go ?_); exact .t (by rw [← hinv, List.any_cons, hc']; rfl)
    · have hc' : varBad x = false := hc
      refine fR rfl ?_
      refine Run.cond rfl rfl (fun hc2 => ?_) (fun hc2 => ?_)
      · have hc2' : varBad2 x = true := hc2
        refine fR rfl ?_
        refine Run.fin rfl (EndOk.go ?_); exact .t (by rw [← hinv, List.any_cons, hc', hc2']; rfl)
      · have hc2' : varBad2 x = false := hc2
        refine fR rfl ?_
        refine aL rfl rfl rfl rfl rfl ?_
        refine fM rfl ?_
        exact rWeak 0 rfl (ih () (by rw [← hinv, List.any_cons, hc', hc2']; rfl)) rfl rfl rfl
end Go.GB.C11


/-
  E13J: chapter 13's functions: right documents.
-/
namespace Go.GB.C11
open Go.GB
set_option linter.unusedSimpArgs false
set_option linter.unusedVariables false
set_option maxRecDepth 100000
set_option maxHeartbeats 4000000
variable {P : Program}

/-- a selection is right, given what holds of those within -/
def selR1 (s : Sel) (b : Bool) : Bool :=
  if (!dirsR s.dirs || !argsR s.args) = true then false
  else if (s.kind == 1) = true then ((((nameF s.name && (s.ali == [] || nameF s.ali)) && s.on == [])) && ((s.sels.length : Int) == 0 || b))
  else if (s.kind == 2) = true then ((((titF s.name && s.ali == []) && s.on == []) && (s.args.length : Int) == 0) && (s.sels.length : Int) == 0)
  else if (s.kind == 3) = true then ((((s.name == [] && s.ali == []) && (s.on == [] || nameF s.on)) && (s.args.length : Int) == 0) && b)
  else false
def ssBad (n : Int) (l : List Sel) : Bool := ((l.length : Int) == 0 || decide ((l.length : Int) > 64)) || decide (n > 24)
def ssR (n : Int) (l : List Sel) : Bool := if ssBad n l = true then false else l.attach.all (fun s => selR1 s.1 (ssR (IntKind.i64.wrap (n + 1)) s.1.sels))
termination_by SizeOf.sizeOf l
decreasing_by exact Nat.lt_trans (Sel.size_sels s.1) (List.sizeOf_lt_of_mem s.2)
theorem ssR_eq (n : Int) (l : List Sel) : ssR n l = if ssBad n l = true then false else l.all (fun s => selR1 s (ssR (IntKind.i64.wrap (n + 1)) s.sels)) := by
  rw [ssR]; congr 1
  rw [Bool.eq_iff_iff]; simp [List.all_eq_true]
def SsC (P : Program) (n : Int) (l : List Sel) : Prop := FnOk P 129 [.t (.lst (l.map Sel.enc)), .t (.int .i64 n)] ⟨[], 0⟩ { v := .t (.bool (ssR n l)) }
theorem selR_ok (H : Pr13 P) (n : Int) (s : Sel) (hs : s.Ok) (hc : SsC P (IntKind.i64.wrap (n + 1)) s.sels) : FnOk P 166 [s.v, .t (.int .i64 n)] ⟨[], 0⟩ { v := .t (.bool (selR1 s (ssR (IntKind.i64.wrap (n + 1)) s.sels))) } := by
  have hnl := hs.nm
  have hal := hs.al
  have hol := hs.on
  have hrl := hs.arl
  unfold SsC at hc
  generalize ssR (IntKind.i64.wrap (n + 1)) s.sels = b at hc
  generalize hT : selR1 s b = tot
  unfold selR1 at hT
  refine FnOk.run H.i166 H.mixed rfl rfl ?_
  refine fR rfl ?_
  refine Mid.call (dirsR_ok H s.dirs hs.dl hs.d) rfl rfl rfl rfl ?_
  refine fM rfl ?_
  refine caG rfl rfl (fun hg => ⟨_, rfl, argsR_ok H s.args (by omega) (fun x hx => (hs.ar x hx).1) (fun x hx => (hs.ar x hx).2), rfl⟩) rfl rfl ?_
  refine fM rfl ?_
  refine Run.cond rfl rfl (fun h0 => ?_) (fun h0 => ?_)
  · rw [if_pos h0] at hT
    refine fR rfl ?_
    refine Run.fin rfl (EndOk.go ?_); exact .t (by rw [← hT])
  · rw [if_neg (by rw [h0]; simp)] at hT
    refine fR rfl ?_
    refine Run.cond rfl rfl (fun h1 => ?_) (fun h1 => ?_)
    · rw [if_pos h1] at hT
      refine fR rfl ?_
      refine Mid.call (name_ok H.toPr s.name hnl) rfl rfl rfl rfl ?_
      refine fM rfl ?_
      refine caG rfl rfl (fun hg => ⟨_, rfl, name_ok H.toPr s.ali hal, rfl⟩) rfl rfl ?_
      refine fM rfl ?_
      refine lMG rfl rfl rfl rfl ?_
      refine fM rfl ?_
      refine gr rfl ?_
      refine caG rfl rfl (fun hg => ⟨_, rfl, hc, rfl⟩) rfl rfl ?_
      refine fM rfl ?_
      refine Run.fin rfl (EndOk.go ?_); exact .t (by rw [← hT])
    · rw [if_neg (by rw [h1]; simp)] at hT
      refine fR rfl ?_
      refine Run.cond rfl rfl (fun h2 => ?_) (fun h2 => ?_)
      · rw [if_pos h2] at hT
        refine fR rfl ?_
        refine Mid.call (title_ok H s.name hnl) rfl rfl rfl rfl ?_
        refine fM rfl ?_
        refine lMG rfl rfl rfl rfl ?_
        refine fM rfl ?_
        refine lMG rfl rfl rfl rfl ?_
        refine fM rfl ?_
        refine Run.fin rfl (EndOk.go ?_); exact .t (by rw [← hT])
      · rw [if_neg (by rw [h2]; simp)] at hT
        refine fR rfl ?_
        refine Run.cond rfl rfl (fun h3 => ?_) (fun h3 => ?_)
        · rw [if_pos h3] at hT
          refine fR rfl ?_
          refine caG rfl rfl (fun hg => ⟨_, rfl, name_ok H.toPr s.on hol, rfl⟩) rfl rfl ?_
          refine fM rfl ?_
          refine lMG rfl rfl rfl rfl ?_
          refine fM rfl ?_
          refine gr rfl ?_
          refine caG rfl rfl (fun hg => ⟨_, rfl, hc, rfl⟩) rfl rfl ?_
          refine fM rfl ?_
          refine Run.fin rfl (EndOk.go ?_); exact .t (by rw [← hT])
        · rw [if_neg (by rw [h3]; simp)] at hT
          refine fR rfl ?_
          refine Run.fin rfl (EndOk.go ?_); exact .t (by rw [← hT])
theorem ss_step (H : Pr13 P) (n : Int) (l : List Sel) (hl : SelsOk l) (ih : ∀ m l', SizeOf.sizeOf l' < SizeOf.sizeOf l → SelsOk l' → SsC P m l') : SsC P n l := by
  have hll := hl.1
  unfold SsC
  generalize hT : ssR n l = tot
  rw [ssR_eq] at hT
  refine FnOk.run H.i129 H.mixed rfl rfl ?_
  refine fR rfl ?_
  refine lM rfl rfl rfl ?_
  refine fM rfl ?_
  refine lMG rfl rfl rfl rfl ?_
  refine fM rfl ?_
  refine Run.cond rfl rfl (fun h0 => ?_) (fun h0 => ?_)
  · have h0' : ssBad n l = true := h0
    rw [if_pos h0'] at hT
    refine fR rfl ?_
    refine Run.fin rfl (EndOk.go ?_); exact .t (by rw [← hT])
  · have h0' : ssBad n l = false := h0
    rw [if_neg (by rw [h0']; simp)] at hT
    refine fR rfl ?_
    refine rList l (fun i (_ : Unit) => { env := [(0, .t (.lst (l.map Sel.enc))), (1, .t (.int .i64 n)), (5, .t (.int .i64 i))], s := ⟨[], 0⟩ }) (fun r i _ => r.all (fun s => selR1 s (ssR (IntKind.i64.wrap (n + 1)) s.sels)) = tot) 0 () rfl hT rfl rfl rfl ?_ ?_
    · intro _ hinv
      refine fR rfl ?_
      refine lM rfl rfl rfl ?_
      refine fM rfl ?_
      refine Run.condF rfl rfl (by simp) ?_
      refine fR rfl ?_
      refine Run.fin rfl (EndOk.go ?_); exact .t (by rw [← hinv]; rfl)
    · intro i x r _ h1 hi hd hinv ihl
      have hxm : x ∈ l := List.mem_of_getElem? h1
      have hx := hl.2 x hxm
      have hsz : SizeOf.sizeOf x.sels < SizeOf.sizeOf l := Nat.lt_trans (Sel.size_sels x) (List.sizeOf_lt_of_mem hxm)
      have hcall := selR_ok H n x hx (ih _ x.sels hsz (SelsOk.sub hx))
      rw [List.all_cons] at hinv
      generalize selR1 x (ssR (IntKind.i64.wrap (n + 1)) x.sels) = b at hinv hcall
      refine fR rfl ?_
      refine lM rfl rfl rfl ?_
      refine fM rfl ?_
      refine Run.condT rfl rfl (by simp; omega) ?_
      refine fR rfl ?_
      refine Mid.elemMapC (Sel.enc_eq x) rfl rfl rfl h1 rfl rfl ?_
      refine fM rfl ?_
      refine Mid.call (hcall) rfl rfl rfl rfl ?_
      refine fM rfl ?_
      refine Run.cond rfl rfl (fun hc => ?_) (fun hc => ?_)
      · have hc' : b = false := by simpa using hc
        refine fR rfl ?_
        refine Run.fin rfl (EndOk.go ?_); exact .t (by rw [← hinv, hc']; rfl)
      · have hc' : b = true := by simpa using hc
        refine fR rfl ?_
        refine aL rfl rfl rfl rfl rfl ?_
        refine fM rfl ?_
        exact rWeak 0 rfl (ihl () (by rw [← hinv, hc']; rfl)) rfl rfl rfl
theorem ss_ok (H : Pr13 P) : ∀ (n : Int) (l : List Sel), SelsOk l → SsC P n l
  | n, l, hl => ss_step H n l hl fun m l' h h1 => ss_ok H m l' h1
termination_by n l => SizeOf.sizeOf l
def opBad (o : Op) : Bool := (((decide (o.kind < 1) || decide (o.kind > 3)) || (o.name != [] && !nameF o.name)) || !varsR o.vars) || !ssR 1 o.sels
def frBad (f : Frag) : Bool := (!titF f.name || !nameF f.on) || !ssR 1 f.sels
def rightQ (q : Query) : Bool := if (decide (((q.ops.length + q.frags.length : Nat) : Int) < 1) || decide (((q.ops.length + q.frags.length : Nat) : Int) > 64)) = true then false else (!q.ops.any opBad && !q.frags.any frBad)
theorem right08_ok (H : Pr13 P) (q : Query) (hq : q.Ok) : FnOk P 75 [q.v] ⟨[], 0⟩ { v := .t (.bool (rightQ q)) } := by
  have hfl := hq.fl
  have hol := hq.ol
  generalize hT : rightQ q = tot
  unfold rightQ at hT
  refine FnOk.run H.i75 H.mixed rfl rfl ?_
  refine fR rfl ?_
  refine lM rfl rfl rfl ?_
  refine fM rfl ?_
  refine lM rfl rfl rfl ?_
  refine aN rfl rfl rfl ?_
  refine fM rfl ?_
  refine Run.cond rfl rfl (fun h0 => ?_) (fun h0 => ?_)
  · rw [if_pos h0] at hT
    refine fR rfl ?_
    refine Run.fin rfl (EndOk.go ?_); exact .t (by rw [← hT])
  · rw [if_neg (by rw [h0]; simp)] at hT
    refine fR rfl ?_
    refine rList q.ops (fun i (_ : Unit) => { env := [(1, .ptr 0 0), (4, .t (.int .i64 i))], s := ⟨[(0, .cells [.t (.lst (q.ops.map Op.enc)), .t (.lst (q.frags.map Frag.enc))])], 1⟩ }) (fun r i _ => (!r.any opBad && !q.frags.any frBad) = tot) 1 () rfl hT rfl rfl rfl ?_ ?_
    · intro _ hinv
      have hinv' : (!q.frags.any frBad) = tot := by rw [← hinv]; rfl
      refine fR rfl ?_
      refine lM rfl rfl rfl ?_
      refine fM rfl ?_
      refine Run.condF rfl rfl (by simp) ?_
      refine fR rfl ?_
      refine rList q.frags (fun i (_ : Unit) => { env := [(1, .ptr 0 0), (6, .t (.int .i64 i))], s := ⟨[(0, .cells [.t (.lst (q.ops.map Op.enc)), .t (.lst (q.frags.map Frag.enc))])], 1⟩ }) (fun r i _ => (!r.any frBad) = tot) 1 () rfl hinv' rfl rfl rfl ?_ ?_
      · intro _ hinv2
        refine fR rfl ?_
        refine lM rfl rfl rfl ?_
        refine fM rfl ?_
        refine Run.condF rfl rfl (by simp) ?_
        refine fR rfl ?_
        refine Run.fin rfl (EndOk.go ?_); exact .t (by rw [← hinv2]; rfl)
      · intro i x r _ h1 hi hd hinv2 ih
        have hx := hq.f x (List.mem_of_getElem? h1)
        have hss := ss_ok H 1 x.sels hx.s
        unfold SsC at hss
        refine fR rfl ?_
        refine lM rfl rfl rfl ?_
        refine fM rfl ?_
        refine Run.condT rfl rfl (by simp; omega) ?_
        refine fR rfl ?_
        refine Mid.elemMap rfl rfl rfl h1 rfl rfl ?_
        refine fM rfl ?_
        refine Mid.call (title_ok H x.name hx.nm) rfl rfl rfl rfl ?_
        refine fM rfl ?_
        refine caG rfl rfl (fun hg => ⟨_, rfl, name_ok H.toPr x.on hx.on, rfl⟩) rfl rfl ?_
        refine fM rfl ?_
        refine caG rfl rfl (fun hg => ⟨_, rfl, hss, rfl⟩) rfl rfl ?_
        refine fM rfl ?_
        refine Run.cond rfl rfl (fun hc => ?_) (fun hc => ?_)
        · have hc' : frBad x = true := hc
          refine fR rfl ?_
          refine Run.fin rfl (EndOk.go ?_); exact .t (by rw [← hinv2, List.any_cons, hc']; rfl)
        · have hc' : frBad x = false := hc
          refine fR rfl ?_
          refine aL rfl rfl rfl rfl rfl ?_
          refine fM rfl ?_
          exact rWeak 1 rfl (ih () (by rw [← hinv2, List.any_cons, hc']; rfl)) rfl rfl rfl
    · intro i x r _ h1 hi hd hinv ih
      have hx := hq.o x (List.mem_of_getElem? h1)
      have hss := ss_ok H 1 x.sels hx.s
      unfold SsC at hss
      refine fR rfl ?_
      refine lM rfl rfl rfl ?_
      refine fM rfl ?_
      refine Run.condT rfl rfl (by simp; omega) ?_
      refine fR rfl ?_
      refine Mid.elemMap rfl rfl rfl h1 rfl rfl ?_
      refine fM rfl ?_
      refine caG rfl rfl (fun hg => ⟨_, rfl, name_ok H.toPr x.name hx.nm, rfl⟩) rfl rfl ?_
      refine fM rfl ?_
      refine caG rfl rfl (fun hg => ⟨_, rfl, varsR_ok H x.vars hx.vl hx.v, rfl⟩) rfl rfl ?_
      refine fM rfl ?_
      refine caG rfl rfl (fun hg => ⟨_, rfl, hss, rfl⟩) rfl rfl ?_
      refine fM rfl ?_
      refine Run.cond rfl rfl (fun hc => ?_) (fun hc => ?_)
      · have hc' : opBad x = true := hc
        refine fR rfl ?_
        refine Run.fin rfl (EndOk.go ?_); exact .t (by rw [← hinv, List.any_cons, hc']; rfl)
      · have hc' : opBad x = false := hc
        refine fR rfl ?_
        refine aL rfl rfl rfl rfl rfl ?_
        refine fM rfl ?_
        exact rWeak 1 rfl (ih () (by rw [← hinv, List.any_cons, hc']; rfl)) rfl rfl rfl
end Go.GB.C11


/-
  E13K: the reference's Faces.
-/
namespace Go.GB.C11
open Go.GB
set_option linter.unusedSimpArgs false
set_option linter.unusedVariables false
set_option maxRecDepth 100000
set_option maxHeartbeats 4000000
variable {P : Program}

theorem sameR_comm (a b : Ref) : sameR a b = sameR b a := by
  unfold sameR
  rw [Bool.eq_iff_iff]; simp; exact ⟨fun h => ⟨h.1.symm, h.2.symm⟩, fun h => ⟨h.1.symm, h.2.symm⟩⟩
theorem rSameRef_ok (H : Pr13 P) (a b : Ref) (ha : a.Ok) (hb : b.Ok) : FnOk P 183 [a.v, b.v] ⟨[], 0⟩ { v := .t (.bool (sameR a b)) } := by
  have h1 := ha.l
  have h2 := hb.l
  refine FnOk.run H.i183 H.mixed rfl rfl ?_
  refine fR rfl ?_
  refine caG rfl rfl (fun hg => ⟨_, rfl, same_ok H.toPr a.wraps b.wraps (by omega) (by omega), rfl⟩) rfl rfl ?_
  refine fM rfl ?_
  refine Run.fin rfl (EndOk.go ?_); exact .t rfl
theorem kindOf_ok (H : Pr13 P) (ds : List Def) (hD : DocOk ds) (n : Str) (k : Int) (hk : k ≠ 0) : FnOk P 167 [docV ds, .t (.str n), .t (.int .i64 k)] ⟨[], 0⟩ { v := .t (.int .i64 (namedF ds n k)) } := by
  refine FnOk.run H.i167 H.mixed rfl rfl ?_
  refine fR rfl ?_
  refine Mid.call (rFind_ok H.toPr ds hD.l n) rfl rfl rfl rfl ?_
  refine fM rfl ?_
  refine caG rfl rfl (fun hg => ⟨_, rfl, rScalar_ok H.toPr n, rfl⟩) rfl rfl ?_
  refine fM rfl ?_
  refine Run.cond rfl rfl (fun h1 => ?_) (fun h1 => ?_)
  · refine fR rfl ?_
    refine Run.fin rfl (EndOk.go ?_); exact .t (by unfold namedF; rw [if_pos h1])
  · have h1' : ¬ (!(findDef n ds).isSome && !(scalF n)) = true := by
      rw [show (!(findDef n ds).isSome && !(scalF n)) = false from h1]; simp
    refine fR rfl ?_
    refine Run.cond rfl rfl (fun h2 => ?_) (fun h2 => ?_)
    · have h2' : (!(findDef n ds).isSome || ((findDef n ds).getD Def.zero).kind != k) = true := by
        have : (((findDef n ds).getD Def.zero).kind != k) = true := h2
        rw [this]; simp
      refine fR rfl ?_
      refine Run.fin rfl (EndOk.go ?_); exact .t (by unfold namedF; rw [if_neg h1', if_pos h2'])
    · have h2' : ¬ (!(findDef n ds).isSome || ((findDef n ds).getD Def.zero).kind != k) = true := by
        have : (((findDef n ds).getD Def.zero).kind != k) = false := h2
        rw [this]
        cases hf : findDef n ds with
        | none => rw [hf] at this; exact absurd (by simpa [Def.zero] using this) hk.symm
        | some d => simp
      refine fR rfl ?_
      refine Run.fin rfl (EndOk.go ?_); exact .t (by unfold namedF; rw [if_neg h1', if_neg h2'])
theorem rField_ok (H : Pr13 P) (ds : List Def) (hD : DocOk ds) (t : Def) (ht : t.Ok) (x : Field) (hx : x.Ok) (hl : (fldF ds t x).length ≤ 4398046511104) : FnOk P 168 [docV ds, t.v, x.v] ⟨[], 0⟩ { v := .t (.lst ((fldF ds t x).map Fault.enc)) } := by
  have hxn := hx.nm
  have htn := ht.nm
  have hxa := hx.al
  have hatl : List.length (atF t x) ≤ 281474976710657 := by unfold atF; simp; omega
  generalize hT : fldF ds t x = tot at hl
  unfold fldF at hT
  generalize hAt : atF t x = at_ at hT hatl
  have hAt' : t.name ++ [46] ++ x.name = at_ := hAt
  refine FnOk.run H.i168 H.mixed rfl rfl ?_
  refine fR rfl ?_
  refine pu rfl ?_
  refine fM rfl ?_
  refine pu rfl ?_
  refine fM rfl ?_
  rw [hAt']
  refine Mid.call (rFieldOf_ok H.toPr t ht.fl x.name) rfl rfl rfl rfl ?_
  refine fM rfl ?_
  cases hy : findField x.name t.fields with
  | none =>
    rw [hy] at hT
    refine Run.condT rfl rfl rfl ?_
    refine fR rfl ?_
    refine Run.fin rfl (EndOk.go ?_)
    first
    | exact .t (by rw [← hT]; rfl)
    | exact .own (by rw [← hT]; rfl)
  | some y =>
    rw [hy] at hT
    simp only at hT
    have hyo := ht.f y (findField_mem hy)
    have hya := hyo.al
    refine Run.condF rfl rfl rfl ?_
    refine fR rfl ?_
    refine Mid.call (rSubTy_ok H.toPr ds hD y.ty x.ty hyo.t hx.t) rfl rfl rfl rfl ?_
    refine fM rfl ?_
    have tail : ∀ B0 : List Fault, B0 ++ (argsA y at_ x.args ++ argsB x at_ y.args) = tot → Run P n168 (⟨[], 0⟩ : S).nxt (EndOk ⟨[], 0⟩ { v := .t (.lst (tot.map Fault.enc)) } r168 AExit.ret)
        [It.c c168_20, It.blk 0, It.c c168_11] { env := [(5, .ptr 2 0), (7, .t (.str at_)), (8, .ptr 3 0), (10, .own 4 2 (List.map Fault.enc (B0))), (11, .t (.int .i64 0))], s := ⟨[(2, .cells [.t (.str x.name), .t (.lst (x.args.map Input.enc)), .t (.str x.ty.name), .t (.lst (x.ty.wraps.map nE)), .t (.lst (x.dirs.map Dir.enc))]), (3, .cells [.t (.str y.name), .t (.lst (y.args.map Input.enc)), .t (.str y.ty.name), .t (.lst (y.ty.wraps.map nE)), .t (.lst (y.dirs.map Dir.enc))]), (4, .arr (B0).length)], 5⟩ } := by
      intro B0 hB0
      refine rList x.args (fun i (B : List Fault) => { env := [(5, .ptr 2 0), (7, .t (.str at_)), (8, .ptr 3 0), (10, .own 4 2 (List.map Fault.enc (B))), (11, .t (.int .i64 i))], s := ⟨[(2, .cells [.t (.str x.name), .t (.lst (x.args.map Input.enc)), .t (.str x.ty.name), .t (.lst (x.ty.wraps.map nE)), .t (.lst (x.dirs.map Dir.enc))]), (3, .cells [.t (.str y.name), .t (.lst (y.args.map Input.enc)), .t (.str y.ty.name), .t (.lst (y.ty.wraps.map nE)), .t (.lst (y.dirs.map Dir.enc))]), (4, .arr (B).length)], 5⟩ }) (fun r i B => B ++ (argsA y at_ r ++ argsB x at_ y.args) = tot) 5 B0 rfl hB0 rfl rfl rfl ?_ ?_
      · rintro B hB
        simp only [argsA, List.nil_append] at hB
        refine fR rfl ?_
        refine lM rfl rfl rfl ?_
        refine fM rfl ?_
        refine Run.condF rfl rfl (by simp) ?_
        refine fR rfl ?_
        refine rList y.args (fun i (B : List Fault) => { env := [(5, .ptr 2 0), (7, .t (.str at_)), (8, .ptr 3 0), (10, .own 4 2 (List.map Fault.enc (B))), (14, .t (.int .i64 i))], s := ⟨[(2, .cells [.t (.str x.name), .t (.lst (x.args.map Input.enc)), .t (.str x.ty.name), .t (.lst (x.ty.wraps.map nE)), .t (.lst (x.dirs.map Dir.enc))]), (3, .cells [.t (.str y.name), .t (.lst (y.args.map Input.enc)), .t (.str y.ty.name), .t (.lst (y.ty.wraps.map nE)), .t (.lst (y.dirs.map Dir.enc))]), (4, .arr (B).length)], 5⟩ }) (fun r i B => B ++ argsB x at_ r = tot) 5 B rfl hB rfl rfl rfl ?_ ?_
        · rintro C hC
          obtain rfl : C = tot := by rw [← hC]; simp [argsB]
          refine fR rfl ?_
          refine lM rfl rfl rfl ?_
          refine fM rfl ?_
          refine Run.condF rfl rfl (by simp) ?_
          refine fR rfl ?_
          refine Run.fin rfl (EndOk.go ?_); exact .own rfl
        · rintro i b r C h1 hi hd hC ih
          have hb := hyo.a b (List.mem_of_getElem? h1)
          have hbn := hb.nm
          have hlen := congrArg List.length hC
          simp only [List.length_append] at hlen
          refine fR rfl ?_
          refine lM rfl rfl rfl ?_
          refine fM rfl ?_
          refine Run.condT rfl rfl (by simp; omega) ?_
          refine fR rfl ?_
          refine Mid.elemMap rfl rfl rfl h1 rfl rfl ?_
          refine fM rfl ?_
          refine Mid.call (rInputOf_ok H.toPr x.args hxa b.name) rfl rfl rfl rfl ?_
          refine fM rfl ?_
          refine elG rfl rfl rfl rfl h1 rfl rfl ?_
          refine fM rfl ?_
          refine caG rfl rfl (fun hg => ⟨_, rfl, rNn_ok H.toPr b.ty hb.t, rfl⟩) rfl rfl ?_
          refine fM rfl ?_
          refine elG rfl rfl rfl rfl h1 rfl rfl ?_
          refine fM rfl ?_
          refine Run.cond rfl rfl (fun hc => ?_) (fun hc => ?_)
          · have hc' : badR x b = true := hc
            simp only [argsB] at hC hlen
            rw [if_pos hc'] at hC hlen
            simp only [List.length_cons] at hlen
            refine fR rfl ?_
            refine pu rfl ?_
            refine fM rfl ?_
            refine Mid.elemMap rfl rfl rfl h1 rfl rfl ?_
            refine fM rfl ?_
            refine pu rfl ?_
            refine pu rfl ?_
            refine fM rfl ?_
            refine apM Fault.enc C [(⟨22, at_ ++ [40] ++ b.name ++ [41]⟩ : Fault)] rfl rfl rfl rfl rfl ?_ (h1 := by first | omega | (simp; omega) | (simp; done)) (h2 := by first | omega | (simp; omega) | (simp; done))
            refine fM rfl ?_
            refine aL rfl rfl rfl rfl rfl ?_
            refine fM rfl ?_
            exact rWeak 5 rfl (ih (C ++ [⟨22, at_ ++ [40] ++ b.name ++ [41]⟩]) (by rw [← hC]; simp)) rfl rfl rfl
          · have hc' : ¬ badR x b = true := by rw [show badR x b = false from hc]; simp
            simp only [argsB] at hC
            rw [if_neg hc'] at hC
            refine fR rfl ?_
            refine aL rfl rfl rfl rfl rfl ?_
            refine fM rfl ?_
            exact rWeak 5 rfl (ih C hC) rfl rfl rfl
      · rintro i a r B h1 hi hd hB ih
        have ha := hx.a a (List.mem_of_getElem? h1)
        have han := ha.nm
        have hlen := congrArg List.length hB
        simp only [List.length_append] at hlen
        have hio := inOk hyo.a a.name
        refine fR rfl ?_
        refine lM rfl rfl rfl ?_
        refine fM rfl ?_
        refine Run.condT rfl rfl (by simp; omega) ?_
        refine fR rfl ?_
        refine Mid.elemMap rfl rfl rfl h1 rfl rfl ?_
        refine fM rfl ?_
        refine Mid.call (rInputOf_ok H.toPr y.args hya a.name) rfl rfl rfl rfl ?_
        refine fM rfl ?_
        refine elG rfl rfl rfl rfl h1 rfl rfl ?_
        refine fM rfl ?_
        refine caG rfl rfl (fun hg => ⟨_, rfl, rSameRef_ok H ((findInput a.name y.args).getD Input.zero).ty a.ty hio.t ha.t, rfl⟩) rfl rfl ?_
        refine fM rfl ?_
        refine Run.cond rfl rfl (fun hc => ?_) (fun hc => ?_)
        · have hc' : badA y a = true := by
            have h := hc
            rw [sameR_comm] at h; exact h
          simp only [argsA] at hB hlen
          rw [if_pos hc'] at hB hlen
          simp only [List.length_cons, List.cons_append] at hB hlen
          refine fR rfl ?_
          refine pu rfl ?_
          refine fM rfl ?_
          refine Mid.elemMap rfl rfl rfl h1 rfl rfl ?_
          refine fM rfl ?_
          refine pu rfl ?_
          refine pu rfl ?_
          refine fM rfl ?_
          refine apM Fault.enc B [(⟨22, at_ ++ [40] ++ a.name ++ [41]⟩ : Fault)] rfl rfl rfl rfl rfl ?_ (h1 := by first | omega | (simp; omega) | (simp; done)) (h2 := by first | omega | (simp; omega) | (simp; done))
          refine fM rfl ?_
          refine aL rfl rfl rfl rfl rfl ?_
          refine fM rfl ?_
          exact rWeak 5 rfl (ih (B ++ [⟨22, at_ ++ [40] ++ a.name ++ [41]⟩]) (by rw [← hB]; simp)) rfl rfl rfl
        · have hc' : ¬ badA y a = true := by
            have h := hc
            rw [sameR_comm] at h
            rw [show badA y a = false from h]; simp
          simp only [argsA] at hB
          rw [if_neg hc'] at hB
          refine fR rfl ?_
          refine aL rfl rfl rfl rfl rfl ?_
          refine fM rfl ?_
          exact rWeak 5 rfl (ih B hB) rfl rfl rfl
    refine Run.cond rfl rfl (fun hs => ?_) (fun hs => ?_)
    · have hs' : ¬ subTy ds y.ty x.ty = true := by simpa using hs
      rw [if_neg hs'] at hT
      refine fR rfl ?_
      refine apN Fault.enc [(⟨10, at_⟩ : Fault)] rfl rfl rfl ?_ (h1 := by first | omega | (simp; omega) | (simp; done)) (h2 := by first | omega | (simp; omega) | (simp; done))
      refine fM rfl ?_
      refine rWeakC 5 rfl (tail [⟨10, at_⟩] hT) rfl rfl rfl
    · have hs' : subTy ds y.ty x.ty = true := by simpa using hs
      rw [if_pos hs'] at hT
      refine fR rfl ?_
      refine rWeakC 4 rfl (tail [] hT) rfl rfl rfl
theorem rObject_ok (H : Pr13 P) (ds : List Def) (hD : DocOk ds) (t : Def) (ht : t.Ok) (hl : (objF ds t).length ≤ 4398046511104) : FnOk P 131 [docV ds, t.v] ⟨[], 0⟩ { v := .t (.lst ((objF ds t).map Fault.enc)) } := by
  have hil := ht.il
  unfold objF at hl ⊢
  generalize hT : objL ds t [] t.implements = tot at hl
  refine FnOk.run H.i131 H.mixed rfl rfl ?_
  refine fR rfl ?_
  refine rList t.implements (fun i (B : List Fault) => { env := [(2, .ptr 0 0), (3, .ptr 1 0), (5, .own 2 2 (List.map Fault.enc (B))), (6, .t (.int .i64 i))], s := ⟨[(0, .cells [.t (.lst (ds.map Def.enc))]), (1, .cells [.t (.int .i64 t.kind), .t (.str t.name), .t (.lst (t.implements.map sE)), .t (.lst (t.dirs.map Dir.enc)), .t (.lst (t.fields.map Field.enc)), .t (.lst (t.members.map Member.enc)), .t (.lst (t.inputs.map Input.enc))]), (2, .arr (B).length)], 3⟩ }) (fun r i B => B ++ objL ds t (t.implements.take i) r = tot) 2 [] rfl (by simpa using hT) rfl rfl rfl ?_ ?_
  · rintro B hB
    obtain rfl : B = tot := by rw [← hB]; simp [objL]
    refine fR rfl ?_
    refine lM rfl rfl rfl ?_
    refine fM rfl ?_
    refine Run.condF rfl rfl (by simp) ?_
    refine fR rfl ?_
    refine Run.fin rfl (EndOk.go ?_); exact .own rfl
  · rintro i n r B h1 hi hd hB ih
    have htk : t.implements.take i ++ [n] = t.implements.take (i + 1) := by rw [List.take_add_one, h1]; rfl
    have hB' : B ++ ((if objE ds (t.implements.take i) n = 0 then faceF ds t ((findDef n ds).getD Def.zero).fields else [(⟨objE ds (t.implements.take i) n, t.name⟩ : Fault)]) ++ objL ds t (t.implements.take (i + 1)) r) = tot := by rw [← htk]; exact hB
    have hlen : B.length + (if objE ds (t.implements.take i) n = 0 then faceF ds t ((findDef n ds).getD Def.zero).fields else [(⟨objE ds (t.implements.take i) n, t.name⟩ : Fault)]).length ≤ 4398046511104 := by
      have := congrArg List.length hB'
      simp only [List.length_append] at this; omega
    have htkl : (t.implements.take i).length ≤ 140737488355328 := by simp; omega
    have hF := docFind hD n
    refine fR rfl ?_
    refine lM rfl rfl rfl ?_
    refine fM rfl ?_
    refine Run.condT rfl rfl (by simp; omega) ?_
    refine fR rfl ?_
    refine Mid.elemMap rfl rfl rfl h1 rfl rfl ?_
    refine fM rfl ?_
    refine Mid.call (kindOf_ok H ds hD n 2 (by decide)) rfl rfl rfl rfl ?_
    refine fM rfl ?_
    refine lToG rfl rfl rfl rfl rfl ?_
    refine fM rfl ?_
    refine elG rfl rfl rfl rfl h1 rfl rfl ?_
    refine fM rfl ?_
    refine caG rfl rfl (fun hg => ⟨_, rfl, rHas_ok H.toPr (t.implements.take i) htkl n, rfl⟩) rfl rfl ?_
    refine fM rfl ?_
    refine Run.cond rfl rfl (fun h7 => ?_) (fun h7 => ?_)
    · have e7 : objE ds (t.implements.take i) n = 7 := by unfold objE; rw [if_pos h7]
      rw [e7] at hB' hlen
      simp at hB' hlen
      refine fR rfl ?_
      refine Run.condT rfl rfl rfl ?_
      refine fR rfl ?_
      refine apM Fault.enc B [(⟨7, t.name⟩ : Fault)] rfl rfl rfl rfl rfl ?_ (h1 := by first | omega | (simp; omega) | (simp; done)) (h2 := by first | omega | (simp; omega) | (simp; done))
      refine fM rfl ?_
      refine aL rfl rfl rfl rfl rfl ?_
      refine fM rfl ?_
      exact rWeak 3 rfl (ih (B ++ [⟨7, t.name⟩]) (by rw [← hB']; simp)) rfl rfl rfl
    · have e7 : objE ds (t.implements.take i) n = namedF ds n 2 := by unfold objE; rw [if_neg (by rw [show (namedF ds n 2 == 0 && decide (n ∈ t.implements.take i)) = false from h7]; simp)]
      rw [e7] at hB' hlen
      refine fR rfl ?_
      refine Run.cond rfl rfl (fun he => ?_) (fun he => ?_)
      · have he' : ¬ namedF ds n 2 = 0 := by simpa using he
        rw [if_neg he'] at hB' hlen
        simp at hB' hlen
        refine fR rfl ?_
        refine apM Fault.enc B [(⟨namedF ds n 2, t.name⟩ : Fault)] rfl rfl rfl rfl rfl ?_ (h1 := by first | omega | (simp; omega) | (simp; done)) (h2 := by first | omega | (simp; omega) | (simp; done))
        refine fM rfl ?_
        refine aL rfl rfl rfl rfl rfl ?_
        refine fM rfl ?_
        exact rWeak 3 rfl (ih (B ++ [⟨namedF ds n 2, t.name⟩]) (by rw [← hB']; simp)) rfl rfl rfl
      · have he' : namedF ds n 2 = 0 := by simpa using he
        rw [if_pos he'] at hB' hlen
        refine fR rfl ?_
        refine Mid.elemMap rfl rfl rfl h1 rfl rfl ?_
        refine fM rfl ?_
        refine Mid.call (rFind_ok H.toPr ds hD.l n) rfl rfl rfl rfl ?_
        refine fM rfl ?_
        generalize hf : (findDef n ds).getD Def.zero = f at hF hB' hlen
        have hff := hF.fl
        generalize hG : faceF ds t f.fields = G at hB' hlen
        refine rList f.fields (fun j (C : List Fault) => { env := [(2, .ptr 0 0), (3, .ptr 1 0), (5, .own 2 2 (List.map Fault.enc C)), (6, .t (.int .i64 i)), (8, .ptr 3 0), (10, .t (.int .i64 j))], s := ⟨[(0, .cells [.t (.lst (ds.map Def.enc))]), (1, .cells [.t (.int .i64 t.kind), .t (.str t.name), .t (.lst (t.implements.map sE)), .t (.lst (t.dirs.map Dir.enc)), .t (.lst (t.fields.map Field.enc)), .t (.lst (t.members.map Member.enc)), .t (.lst (t.inputs.map Input.enc))]), (2, .arr C.length), (3, .cells [.t (.int .i64 f.kind), .t (.str f.name), .t (.lst (f.implements.map sE)), .t (.lst (f.dirs.map Dir.enc)), .t (.lst (f.fields.map Field.enc)), .t (.lst (f.members.map Member.enc)), .t (.lst (f.inputs.map Input.enc))])], 4⟩ }) (fun r2 j C => C ++ faceF ds t r2 = B ++ G) 4 B rfl (by rw [← hG]) rfl rfl rfl ?_ ?_
        · rintro C hC
          simp only [faceF, List.append_nil] at hC
          subst hC
          refine fR rfl ?_
          refine lM rfl rfl rfl ?_
          refine fM rfl ?_
          refine Run.condF rfl rfl (by simp) ?_
          refine fR rfl ?_
          refine aL rfl rfl rfl rfl rfl ?_
          refine fM rfl ?_
          exact rWeak 3 rfl (ih (B ++ G) (by rw [← hB']; simp)) rfl rfl rfl
        · rintro j x r2 C g1 gi gd hC ih2
          have hx := hF.f x (List.mem_of_getElem? g1)
          have hln2 := congrArg List.length hC
          simp only [faceF, List.length_append] at hln2
          have hcall := rField_ok H ds hD t ht x hx (by omega)
          simp only [faceF] at hC
          generalize fldF ds t x = N at hC hln2 hcall
          refine fR rfl ?_
          refine lM rfl rfl rfl ?_
          refine fM rfl ?_
          refine Run.condT rfl rfl (by simp; omega) ?_
          refine fR rfl ?_
          refine Mid.elemMap rfl rfl rfl g1 rfl rfl ?_
          refine fM rfl ?_
          refine Mid.call (hcall) rfl rfl rfl rfl ?_
          skip
          refine apM Fault.enc C N rfl rfl rfl rfl rfl ?_ (h1 := by first | omega | (simp; omega) | (simp; done)) (h2 := by first | omega | (simp; omega) | (simp; done))
          refine fM rfl ?_
          refine aL rfl rfl rfl rfl rfl ?_
          refine fM rfl ?_
          exact rWeak 4 rfl (ih2 (C ++ N) (by rw [← hC]; simp)) rfl rfl rfl
theorem rUnion_ok (H : Pr13 P) (ds : List Def) (hD : DocOk ds) (t : Def) (ht : t.Ok) (hl : (unL ds t [] t.members).length ≤ 4398046511104) : FnOk P 132 [docV ds, t.v] ⟨[], 0⟩ { v := .t (.lst ((unL ds t [] t.members).map Fault.enc)) } := by
  have hml := ht.ml
  have htn := ht.nm
  generalize hT : unL ds t [] t.members = tot at hl
  refine FnOk.run H.i132 H.mixed rfl rfl ?_
  refine fR rfl ?_
  refine rList t.members (fun i (B : List Fault) => { env := [(2, .ptr 0 0), (3, .ptr 1 0), (5, .own 2 2 (List.map Fault.enc (B))), (6, .t (.int .i64 i))], s := ⟨[(0, .cells [.t (.lst (ds.map Def.enc))]), (1, .cells [.t (.int .i64 t.kind), .t (.str t.name), .t (.lst (t.implements.map sE)), .t (.lst (t.dirs.map Dir.enc)), .t (.lst (t.fields.map Field.enc)), .t (.lst (t.members.map Member.enc)), .t (.lst (t.inputs.map Input.enc))]), (2, .arr (B).length)], 3⟩ }) (fun r i B => B ++ unL ds t (t.members.take i) r = tot) 2 [] rfl (by simpa using hT) rfl rfl rfl ?_ ?_
  · rintro B hB
    obtain rfl : B = tot := by rw [← hB]; simp [unL]
    refine fR rfl ?_
    refine lM rfl rfl rfl ?_
    refine fM rfl ?_
    refine Run.condF rfl rfl (by simp) ?_
    refine fR rfl ?_
    refine Run.fin rfl (EndOk.go ?_); exact .own rfl
  · rintro i m r B h1 hi hd hB ih
    have hm := ht.m m (List.mem_of_getElem? h1)
    have hmn := hm.nm
    have htk : t.members.take i ++ [m] = t.members.take (i + 1) := by rw [List.take_add_one, h1]; rfl
    simp only [unL, htk] at hB
    have hlen := congrArg List.length hB
    simp only [List.length_append] at hlen
    have htkl : (t.members.take i).length ≤ 140737488355328 := by simp; omega
    refine fR rfl ?_
    refine lM rfl rfl rfl ?_
    refine fM rfl ?_
    refine Run.condT rfl rfl (by simp; omega) ?_
    refine fR rfl ?_
    refine Mid.elemMap rfl rfl rfl h1 rfl rfl ?_
    refine fM rfl ?_
    refine Mid.call (kindOf_ok H ds hD m.name 1 (by decide)) rfl rfl rfl rfl ?_
    refine fM rfl ?_
    refine lToG rfl rfl rfl rfl rfl ?_
    refine fM rfl ?_
    refine caG rfl rfl (fun hg => ⟨_, rfl, member_ok H.toPr ⟨0, [], [], [], [], t.members.take i, []⟩ htkl m.name, rfl⟩) rfl rfl ?_
    refine fM rfl ?_
    refine Run.cond rfl rfl (fun h7 => ?_) (fun h7 => ?_)
    · have e7 : unE ds (t.members.take i) m = 7 := by unfold unE; rw [if_pos h7]
      rw [e7] at hB hlen
      simp at hB hlen
      refine fR rfl ?_
      refine Run.condT rfl rfl rfl ?_
      refine fR rfl ?_
      refine pu rfl ?_
      refine fM rfl ?_
      refine pu rfl ?_
      refine fM rfl ?_
      refine apM Fault.enc B [(⟨7, t.name ++ [46] ++ m.name⟩ : Fault)] rfl rfl rfl rfl rfl ?_ (h1 := by first | omega | (simp; omega) | (simp; done)) (h2 := by first | omega | (simp; omega) | (simp; done))
      refine fM rfl ?_
      refine aL rfl rfl rfl rfl rfl ?_
      refine fM rfl ?_
      exact rWeak 3 rfl (ih (B ++ [⟨7, t.name ++ [46] ++ m.name⟩]) (by rw [← hB]; simp)) rfl rfl rfl
    · have e7 : unE ds (t.members.take i) m = namedF ds m.name 1 := by unfold unE; rw [if_neg (by rw [show (namedF ds m.name 1 == 0 && memF (t.members.take i) m.name) = false from h7]; simp)]
      rw [e7] at hB hlen
      refine fR rfl ?_
      refine Run.cond rfl rfl (fun he => ?_) (fun he => ?_)
      · have he' : ¬ namedF ds m.name 1 = 0 := by simpa using he
        rw [if_neg he'] at hB hlen
        simp at hB hlen
        refine fR rfl ?_
        refine pu rfl ?_
        refine fM rfl ?_
        refine pu rfl ?_
        refine fM rfl ?_
        refine apM Fault.enc B [(⟨namedF ds m.name 1, t.name ++ [46] ++ m.name⟩ : Fault)] rfl rfl rfl rfl rfl ?_ (h1 := by first | omega | (simp; omega) | (simp; done)) (h2 := by first | omega | (simp; omega) | (simp; done))
        refine fM rfl ?_
        refine aL rfl rfl rfl rfl rfl ?_
        refine fM rfl ?_
        exact rWeak 3 rfl (ih (B ++ [⟨namedF ds m.name 1, t.name ++ [46] ++ m.name⟩]) (by rw [← hB]; simp)) rfl rfl rfl
      · have he' : namedF ds m.name 1 = 0 := by simpa using he
        rw [if_pos he'] at hB hlen
        refine fR rfl ?_
        refine aL rfl rfl rfl rfl rfl ?_
        refine fM rfl ?_
        exact rWeak 3 rfl (ih B (by rw [← hB]; simp)) rfl rfl rfl
theorem rFaces_ok (H : Pr13 P) (ds : List Def) (hD : DocOk ds) (hl : (facesF ds).length ≤ 4398046511104) : FnOk P 76 [docV ds] ⟨[], 0⟩ { v := .t (.lst ((facesF ds).map Fault.enc)) } := by
  have hdl := hD.l
  unfold facesF at hl ⊢
  generalize hT : facesL ds ds = tot at hl
  refine FnOk.run H.i76 H.mixed rfl rfl ?_
  refine fR rfl ?_
  refine rList ds (fun i (B : List Fault) => { env := [(1, .ptr 0 0), (3, .own 1 2 (List.map Fault.enc B)), (4, .t (.int .i64 i))], s := ⟨[(0, .cells [.t (.lst (ds.map Def.enc))]), (1, .arr B.length)], 2⟩ }) (fun r i B => B ++ facesL ds r = tot) 1 [] rfl (by simpa using hT) rfl rfl rfl ?_ ?_
  · rintro B hB
    obtain rfl : B = tot := by rw [← hB]; simp [facesL]
    refine fR rfl ?_
    refine lM rfl rfl rfl ?_
    refine fM rfl ?_
    refine Run.condF rfl rfl (by simp) ?_
    refine fR rfl ?_
    refine Run.fin rfl (EndOk.go ?_); exact .own rfl
  · rintro i t r B h1 hi hd hB ih
    have ht := hD.d t (List.mem_of_getElem? h1)
    have hlen := congrArg List.length hB
    simp only [List.length_append] at hlen
    refine fR rfl ?_
    refine lM rfl rfl rfl ?_
    refine fM rfl ?_
    refine Run.condT rfl rfl (by simp; omega) ?_
    refine fR rfl ?_
    refine Mid.elemMap rfl rfl rfl h1 rfl rfl ?_
    refine fM rfl ?_
    refine Run.cond rfl rfl (fun hk => ?_) (fun hk => ?_)
    · have hk' : t.kind = 1 := by simpa using hk
      simp only [facesL] at hB hlen
      rw [if_pos hk'] at hB hlen
      simp only [List.length_append] at hlen
      have hcall := rObject_ok H ds hD t ht (by omega)
      generalize objF ds t = N at hB hlen hcall
      refine fR rfl ?_
      refine Mid.elemMap rfl rfl rfl h1 rfl rfl ?_
      refine fM rfl ?_
      refine Mid.call (hcall) rfl rfl rfl rfl ?_
      skip
      refine apM Fault.enc B N rfl rfl rfl rfl rfl ?_ (h1 := by first | omega | (simp; omega) | (simp; done)) (h2 := by first | omega | (simp; omega) | (simp; done))
      refine fM rfl ?_
      refine aL rfl rfl rfl rfl rfl ?_
      refine fM rfl ?_
      exact rWeak 2 rfl (ih (B ++ N) (by rw [← hB]; simp)) rfl rfl rfl
    · have hk' : ¬ t.kind = 1 := by simpa using hk
      simp only [facesL] at hB hlen
      rw [if_neg hk'] at hB hlen
      simp only [List.length_append] at hlen
      refine fR rfl ?_
      refine Run.cond rfl rfl (fun hk3 => ?_) (fun hk3 => ?_)
      · have hk3' : t.kind = 3 := by simpa using hk3
        rw [if_pos hk3'] at hB hlen
        have hcall := rUnion_ok H ds hD t ht (by omega)
        generalize unL ds t [] t.members = N at hB hlen hcall
        refine fR rfl ?_
        refine Mid.elemMap rfl rfl rfl h1 rfl rfl ?_
        refine fM rfl ?_
        refine Mid.call (hcall) rfl rfl rfl rfl ?_
        skip
        refine apM Fault.enc B N rfl rfl rfl rfl rfl ?_ (h1 := by first | omega | (simp; omega) | (simp; done)) (h2 := by first | omega | (simp; omega) | (simp; done))
        refine fM rfl ?_
        refine aL rfl rfl rfl rfl rfl ?_
        refine fM rfl ?_
        exact rWeak 2 rfl (ih (B ++ N) (by rw [← hB]; simp)) rfl rfl rfl
      · have hk3' : ¬ t.kind = 3 := by simpa using hk3
        rw [if_neg hk3'] at hB
        refine fR rfl ?_
        refine aL rfl rfl rfl rfl rfl ?_
        refine fM rfl ?_
        exact rWeak 2 rfl (ih B (by rw [← hB]; simp)) rfl rfl rfl
end Go.GB.C11


/-
  E13L: chapter 13's example; which documents are looked at.
-/
namespace Go.GB.C11
open Go.GB
set_option linter.unusedSimpArgs false
set_option linter.unusedVariables false
set_option maxRecDepth 100000
set_option maxHeartbeats 4000000
variable {P : Program}

def qF : Frag := ⟨[102], [81, 117, 101, 114, 121], [.mk 1 [] [97] [] [] [] []]⟩
def qSels : List Sel := [.mk 2 [] [102] [] [] [] [], .mk 2 [] [103] [] [] [] []]
def exQ : Query := ⟨[⟨1, [], [], qSels⟩], [qF]⟩
def exD : List Def := [⟨1, [81, 117, 101, 114, 121], [], [], [⟨[97], [], ⟨tInt, []⟩, []⟩], [], []⟩]
theorem qF_ok : qF.Ok := ⟨by decide, by decide, by decide, by intro x hx; simp [qF] at hx; subst hx; exact .mk (by decide) (by decide) (by decide) (by decide) (by decide) (by decide) (by simp) (by simp) (by simp)⟩
theorem qSels_ok : SelsOk qSels := by
  refine ⟨by decide, ?_⟩
  intro x hx
  simp [qSels] at hx
  rcases hx with rfl | rfl <;> exact .mk (by decide) (by decide) (by decide) (by decide) (by decide) (by decide) (by simp) (by simp) (by simp)
theorem exQ_ok : exQ.Ok := by
  refine ⟨by decide, ?_, by decide, ?_⟩
  · intro x hx; simp [exQ] at hx; subst hx; exact ⟨by decide, by decide, by simp, qSels_ok⟩
  · intro x hx; simp [exQ] at hx; subst hx; exact qF_ok
theorem exD_ok : DocOk exD := by
  refine ⟨by decide, ?_, by decide⟩
  intro d hd
  simp [exD] at hd
  subst hd
  exact ⟨by decide, by decide, by simp, by decide, by intro y hy; simp at hy; subst hy; exact ⟨by decide, by simp, ⟨by decide, by decide⟩, by decide, by simp, by decide⟩, by decide, by simp, by decide, by simp, by decide, by simp⟩
theorem ex13_w : wF exQ qSels = ([[102]], false) := by
  unfold wF
  simp [qSels, walkF, exQ, qF, findFrag, Sel.kind, Sel.name, Sel.sels]
theorem ex13_l : reachB exQ qSels = false := by unfold reachB; rw [ex13_w]; rfl
theorem ex13_k : compF exD [81, 117, 101, 114, 121] = true := by kernel_rfl
theorem ex13_o : ovF exD [81, 117, 101, 114, 121] [81, 117, 101, 114, 121] = true := by kernel_rfl
theorem ex13_f : findFrag [102] exQ.frags = some qF := by kernel_rfl
theorem ex13_g : findFrag [103] exQ.frags = none := by kernel_rfl
theorem ex13_lp : loopF exQ qF = false := by
  unfold loopF wF
  simp [qF, walkF, exQ, Sel.kind, Sel.sels]
theorem ex13_u : usedF exQ [102] = true := by
  unfold usedF
  show List.any [_] _ = true
  rw [List.any_cons, ex13_w]; rfl
theorem ex13_s1 : selF exD exQ qSels [81, 117, 101, 114, 121] [] = [⟨24, []⟩] := by
  unfold qSels
  rw [selF_spread rfl, selF_spread rfl, selF_nil]
  simp only [Sel.name]
  rw [ex13_f, ex13_g]
  simp [ifL, qF, apF, ex13_k, ex13_o, compF]
theorem ex13_s2 : selF exD exQ qF.sels qF.on qF.name = [] := by
  unfold qF
  rw [selF_field (by decide) (by decide), selF_nil]
  simp only [Sel.sels]
  rw [selF_nil]; rfl
theorem ex13_c : chkF exD exQ = [⟨24, []⟩] := by
  have e1 : opL exD exQ exQ.ops = [⟨24, []⟩] := by
    show selF exD exQ qSels [81, 117, 101, 114, 121] [] ++ [] = _
    rw [ex13_s1]; rfl
  have e2 : frL exD exQ exQ.frags = [] := by
    show ifL (!compF exD [81, 117, 101, 114, 121]) _ ++ ifL (loopF exQ qF) _ ++ ifL (!usedF exQ [102]) _ ++ selF exD exQ qF.sels qF.on qF.name ++ [] = _
    rw [ex13_k, ex13_lp, ex13_u, ex13_s2]; rfl
  unfold chkF
  rw [e1, e2]; rfl
theorem example13_ok (H : Pr13 P) : FnOk P 33 [] ⟨[], 0⟩ { v := .t (.bool true) } := by
  have h1 := reach_ok H exQ exQ_ok qSels qSels_ok
  rw [ex13_w, ex13_l] at h1
  have h2 := qfind_ok H exQ exQ_ok [102]
  rw [ex13_f] at h2
  have h3 := check13_ok H exD exD_ok exQ exQ_ok (by decide)
  rw [ex13_c] at h3
  have h4 := faults_ok H.toPr [⟨24, []⟩] [⟨24, []⟩] (by decide) (by decide)
  rw [decide_eq_true rfl] at h4
  refine FnOk.run H.i33 H.mixed rfl rfl ?_
  refine fR rfl ?_
  refine pu rfl ?_
  refine fM rfl ?_
  refine Mid.call (h1) rfl rfl rfl rfl ?_
  refine fM rfl ?_
  refine Mid.call (h2) rfl rfl rfl rfl ?_
  refine fM rfl ?_
  refine lM rfl rfl rfl ?_
  refine fM rfl ?_
  refine gr rfl ?_
  refine fM rfl ?_
  refine Mid.ungd rfl rfl rfl ?_
  refine Mid.call (h3) rfl rfl rfl rfl ?_
  refine fM rfl ?_
  refine Mid.ungd rfl rfl rfl ?_
  refine Mid.bslP rfl rfl rfl ?_
  skip
  refine Mid.ungd rfl rfl rfl ?_
  refine Mid.call (h4) rfl rfl rfl rfl ?_
  refine fM rfl ?_
  refine Run.fin rfl (EndOk.go ?_); exact .t rfl
end Go.GB.C11


/-
  E13M: plain laws of chapter 13.
-/
namespace Go.GB.C11
open Go.GB
set_option linter.unusedSimpArgs false
set_option linter.unusedVariables false
set_option maxRecDepth 100000
set_option maxHeartbeats 4000000

/- names of right schemas -/
theorem chkN_nil {ds : List Def} : ∀ {l : List Def} {i : Nat}, chkL ds i l = [] → ∀ d, d ∈ l → allowedF d.name = true
  | [], i, _, d, h => by cases h
  | x :: r, i, h, d, hd => by
    simp only [chkL, List.append_eq_nil_iff] at h
    rcases List.mem_cons.1 hd with rfl | hd
    · have h1 := h.1.1
      unfold wholeF namesF at h1
      simp only [List.append_eq_nil_iff] at h1
      have h2 := h1.1.1.1.1
      cases ha : allowedF d.name with
      | true => rfl
      | false => rw [ha] at h2; simp at h2
    · exact chkN_nil h.2 d hd
theorem comp_nil {ds : List Def} (h : checkF ds false = []) : compF ds [] = false := by
  have h1 : chkL ds 0 ds = [] := by
    unfold checkF at h
    exact (List.append_eq_nil_iff.1 h).1
  have h2 : findDef [] ds = none := by
    cases hf : findDef [] ds with
    | none => rfl
    | some d =>
      have := chkN_nil h1 d (findDef_mem hf)
      rw [findDef_name hf] at this
      exact absurd this (by decide)
  unfold compF kindF
  rw [h2]; rfl

/-- all fragments that selections name exist -/
def fouS (q : Query) : List Sel → Bool
  | [] => true
  | s :: r => (if s.kind = 2 then (findFrag s.name q.frags).isSome else fouS q s.sels) && fouS q r
termination_by l => SizeOf.sizeOf l
decreasing_by
  all_goals simp_wf
  all_goals (have := Sel.size_sels s; omega)
theorem fouS_nil (q : Query) : fouS q [] = true := by rw [fouS]
theorem fouS_spread {q : Query} {s : Sel} {r : List Sel} (h : s.kind = 2) : fouS q (s :: r) = ((findFrag s.name q.frags).isSome && fouS q r) := by rw [fouS, if_pos h]
theorem fouS_sub {q : Query} {s : Sel} {r : List Sel} (h : ¬ s.kind = 2) : fouS q (s :: r) = (fouS q s.sels && fouS q r) := by rw [fouS, if_neg h]
/-- names that are walked to are those of fragments -/
theorem walk_names {q : Query} : ∀ (n : Nat) (l : List Sel) (out : List Str), ∀ x, x ∈ (walkF q n l out).1 → x ∈ out ∨ (findFrag x q.frags).isSome = true
  | n, [], out => by rw [walkF_nil]; exact fun x h => .inl h
  | n, s :: r, out => by
    intro x hx
    by_cases hk : s.kind = 2
    · cases hf : findFrag s.name q.frags with
      | none => rw [walkF_none hk hf] at hx; exact walk_names n r out x hx
      | some f =>
        by_cases hi : s.name ∈ out
        · rw [walkF_in hk hf hi] at hx; exact walk_names n r out x hx
        · match n with
          | 0 => rw [walkF_zero hk hf hi] at hx; exact .inl hx
          | n' + 1 =>
            rw [walkF_new hk hf hi] at hx
            rcases walk_names (n' + 1) r _ x hx with h | h
            · rcases walk_names n' f.sels _ x h with h | h
              · rcases List.mem_append.1 h with h | h
                · exact .inl h
                · simp at h; subst h; exact .inr (by rw [hf]; rfl)
              · exact .inr h
            · exact .inr h
    · rw [walkF_sub hk] at hx
      rcases walk_names n r _ x hx with h | h
      · exact walk_names n s.sels out x h
      · exact .inr h
termination_by n l => (n, SizeOf.sizeOf l)
decreasing_by
  all_goals first
    | (apply Prod.Lex.right; simp only [List.cons.sizeOf_spec]; have := Sel.size_sels s; omega)
    | (apply Prod.Lex.left; omega)
theorem walk_fou' {q : Query} : ∀ (n : Nat) (l : List Sel) (out : List Str), WOk q n out → (walkF q n l out).2 = true → fouS q l = true
  | n, [], out, _, _ => fouS_nil q
  | n, s :: r, out, hw, h => by
    by_cases hk : s.kind = 2
    · rw [fouS_spread hk]
      cases hf : findFrag s.name q.frags with
      | none => rw [walkF_none hk hf] at h; simp at h
      | some f =>
        by_cases hi : s.name ∈ out
        · rw [walkF_in hk hf hi] at h; rw [walk_fou' n r out hw h]; rfl
        · match n, hw.pos hf hi with
          | n' + 1, _ =>
            rw [walkF_new hk hf hi] at h
            simp only [Bool.and_eq_true] at h
            have h1 := (walkF_ok q n' f.sels (out ++ [s.name]) (hw.add hf hi)).1
            rw [walk_fou' (n' + 1) r _ ⟨by have := h1.n; omega, h1.l⟩ h.2]; rfl
          | 0, e => exact absurd e.choose_spec (by omega)
    · rw [fouS_sub hk]
      rw [walkF_sub hk] at h
      simp only [Bool.and_eq_true] at h
      have h1 := (walkF_ok q n s.sels out hw).1
      rw [walk_fou' n s.sels _ hw h.1, walk_fou' n r _ h1 h.2]; rfl
termination_by n l => (n, SizeOf.sizeOf l)
decreasing_by
  all_goals first
    | (apply Prod.Lex.right; simp only [List.cons.sizeOf_spec]; have := Sel.size_sels s; omega)
    | (apply Prod.Lex.left; omega)

/- without violations -/
structure Clean (q : Query) : Prop where
  o : ∀ o, o ∈ q.ops → fouS q o.sels = true
  f : ∀ f, f ∈ q.frags → fouS q f.sels = true ∧ loopF q f = false ∧ usedF q f.name = true
/- one more fragment -/
theorem findFrag_append (n : Str) (z : Frag) : ∀ (l : List Frag), findFrag n (l ++ [z]) = match findFrag n l with | some f => some f | none => if (z.name == n) = true then some z else none
  | [] => by simp only [List.nil_append, findFrag]
  | x :: r => by
    simp only [List.cons_append, findFrag]
    split
    · rfl
    · exact findFrag_append n z r
def moreQ (q : Query) (z : Frag) : Query := ⟨q.ops, q.frags ++ [z]⟩
theorem more_some {q : Query} {z f : Frag} {n : Str} (h : findFrag n q.frags = some f) : findFrag n (moreQ q z).frags = some f := by
  unfold moreQ
  rw [findFrag_append, h]
theorem selF_more {ds : List Def} {q : Query} {z : Frag} : ∀ {l : List Sel} {on at_ : Str}, fouS q l = true → selF ds (moreQ q z) l on at_ = selF ds q l on at_
  | [], on, at_, _ => by rw [selF_nil, selF_nil]
  | s :: r, on, at_, h => by
    by_cases h2 : s.kind = 2
    · rw [fouS_spread h2] at h
      simp only [Bool.and_eq_true] at h
      rw [selF_spread h2, selF_spread h2, selF_more h.2]
      cases hf : findFrag s.name q.frags with
      | none => rw [hf] at h; simp at h
      | some f => rw [more_some hf]
    · rw [fouS_sub h2] at h
      simp only [Bool.and_eq_true] at h
      by_cases h3 : s.kind = 3
      · rw [selF_inline h3, selF_inline h3, selF_more h.2, selF_more h.1]
      · rw [selF_field h2 h3, selF_field h2 h3, selF_more h.2, selF_more h.1]
termination_by l => SizeOf.sizeOf l
decreasing_by
  all_goals simp_wf
  all_goals (have := Sel.size_sels s; omega)
theorem walk_more {q : Query} {z : Frag} (hF : ∀ f, f ∈ q.frags → fouS q f.sels = true) : ∀ (n n' : Nat) (l : List Sel) (out : List Str), WOk q n out → WOk (moreQ q z) n' out → fouS q l = true → walkF (moreQ q z) n' l out = walkF q n l out
  | n, n', [], out, _, _, _ => by rw [walkF_nil, walkF_nil]
  | n, n', s :: r, out, hw, hw', h => by
    by_cases hk : s.kind = 2
    · rw [fouS_spread hk] at h
      simp only [Bool.and_eq_true] at h
      cases hf : findFrag s.name q.frags with
      | none => rw [hf] at h; simp at h
      | some f =>
        by_cases hi : s.name ∈ out
        · rw [walkF_in hk hf hi, walkF_in hk (more_some hf) hi]; exact walk_more hF n n' r out hw hw' h.2
        · match n, n', hw.pos hf hi, hw'.pos (more_some hf) hi with
          | m + 1, m' + 1, _, _ =>
            rw [walkF_new hk hf hi, walkF_new hk (more_some hf) hi]
            have e1 := walk_more (z := z) hF m m' f.sels (out ++ [s.name]) (hw.add hf hi) (hw'.add (more_some hf) hi) (hF f (findFrag_mem hf))
            rw [e1]
            have g1 := (walkF_ok q m f.sels (out ++ [s.name]) (hw.add hf hi)).1
            have g2 := (walkF_ok (moreQ q z) m' f.sels (out ++ [s.name]) (hw'.add (more_some hf) hi)).1
            rw [e1] at g2
            rw [walk_more (z := z) hF (m + 1) (m' + 1) r _ ⟨by have := g1.n; omega, g1.l⟩ ⟨by have := g2.n; omega, g2.l⟩ h.2]
          | 0, _, e, _ => exact absurd e.choose_spec (by omega)
          | _, 0, _, e => exact absurd e.choose_spec (by omega)
    · rw [fouS_sub hk] at h
      simp only [Bool.and_eq_true] at h
      rw [walkF_sub hk, walkF_sub hk]
      have e1 := walk_more (z := z) hF n n' s.sels out hw hw' h.1
      rw [e1]
      have g1 := (walkF_ok q n s.sels out hw).1
      have g2 := (walkF_ok (moreQ q z) n' s.sels out hw').1
      rw [e1] at g2
      rw [walk_more (z := z) hF n n' r _ g1 g2 h.2]
termination_by n n' l => (n, SizeOf.sizeOf l)
decreasing_by
  all_goals first
    | (apply Prod.Lex.right; simp only [List.cons.sizeOf_spec]; have := Sel.size_sels s; omega)
    | (apply Prod.Lex.left; omega)
theorem wF_more {q : Query} {z : Frag} (hF : ∀ f, f ∈ q.frags → fouS q f.sels = true) {l : List Sel} (h : fouS q l = true) : wF (moreQ q z) l = wF q l :=
  walk_more hF _ _ l [] (WOk.start q) (WOk.start _) h
theorem opL_more {ds : List Def} {q : Query} {z : Frag} : ∀ (l : List Op), (∀ o, o ∈ l → fouS q o.sels = true) → opL ds (moreQ q z) l = opL ds q l
  | [], _ => rfl
  | o :: r, h => by
    simp only [opL]
    rw [selF_more (h o (List.mem_cons_self ..)), opL_more r fun o ho => h o (List.mem_cons_of_mem _ ho)]
theorem used_more {q : Query} {z : Frag} (hF : ∀ f, f ∈ q.frags → fouS q f.sels = true) (hO : ∀ o, o ∈ q.ops → fouS q o.sels = true) (n : Str) : usedF (moreQ q z) n = usedF q n := by
  unfold usedF
  show q.ops.any _ = q.ops.any _
  rw [Bool.eq_iff_iff, List.any_eq_true, List.any_eq_true]
  constructor
  · rintro ⟨o, ho, h⟩; rw [wF_more hF (hO o ho)] at h; exact ⟨o, ho, h⟩
  · rintro ⟨o, ho, h⟩; rw [← wF_more (z := z) hF (hO o ho)] at h; exact ⟨o, ho, h⟩
theorem frL_more {ds : List Def} {q : Query} {z : Frag} (hF : ∀ f, f ∈ q.frags → fouS q f.sels = true) (hO : ∀ o, o ∈ q.ops → fouS q o.sels = true) : ∀ (l : List Frag), (∀ f, f ∈ l → f ∈ q.frags) → frL ds (moreQ q z) (l ++ [z]) = frL ds q l ++ frL ds (moreQ q z) [z]
  | [], _ => by simp [frL]
  | f :: r, h => by
    have hf := hF f (h f (List.mem_cons_self ..))
    have e : loopF (moreQ q z) f = loopF q f := by unfold loopF; rw [wF_more hF hf]
    simp only [List.cons_append, frL]
    rw [selF_more hf, used_more hF hO, e]
    have := frL_more (ds := ds) (z := z) hF hO r fun f hf => h f (List.mem_cons_of_mem _ hf)
    rw [this]
    simp [frL, List.append_assoc]
def zzN : Str := [122, 122]
def zzF (on : Str) : Frag := ⟨zzN, on, [.mk 1 [] [120] [] [] [] []]⟩
theorem chk_more {ds : List Def} {q : Query} {on : Str} (hF : ∀ f, f ∈ q.frags → fouS q f.sels = true) (hO : ∀ o, o ∈ q.ops → fouS q o.sels = true) (hon : compF ds on = true) (hz : findFrag zzN q.frags = none) :
    chkF ds (moreQ q (zzF on)) = chkF ds q ++ [⟨26, zzN⟩] := by
  have hs : (zzF on).sels = [.mk 1 [] [120] [] [] [] []] := rfl
  have hfo : fouS q (zzF on).sels = true := by
    rw [hs, fouS_sub (by decide)]
    simp only [Sel.sels]; rw [fouS_nil]; rfl
  have hw : wF q (zzF on).sels = ([], true) := by
    unfold wF
    rw [hs, walkF_sub (by decide)]
    simp only [Sel.sels, walkF_nil]; rfl
  have e1 : loopF (moreQ q (zzF on)) (zzF on) = false := by
    unfold loopF
    rw [wF_more hF hfo, hw]; rfl
  have e2 : usedF (moreQ q (zzF on)) (zzF on).name = false := by
    rw [used_more hF hO]
    unfold usedF
    rw [List.any_eq_false]
    intro o ho
    simp only [decide_eq_true_eq]
    intro hm
    rcases walk_names _ _ _ _ hm with h | h
    · cases h
    · rw [show (zzF on).name = zzN from rfl, hz] at h; cases h
  have e3 : selF ds (moreQ q (zzF on)) (zzF on).sels (zzF on).on (zzF on).name = [] := by
    rw [hs, selF_field (by decide) (by decide), selF_nil]
    simp only [Sel.sels]; rw [selF_nil]; rfl
  have e4 : frL ds (moreQ q (zzF on)) [zzF on] = [⟨26, zzN⟩] := by
    simp only [frL]
    rw [e1, e2, e3, show (zzF on).on = on from rfl, hon]; rfl
  unfold chkF
  show opL ds (moreQ q (zzF on)) q.ops ++ frL ds (moreQ q (zzF on)) (q.frags ++ [zzF on]) = _
  rw [opL_more q.ops hO, frL_more hF hO q.frags (fun _ h => h), e4, List.append_assoc]
theorem reach_fou {q : Query} {l : List Sel} (h : reachB q l = true) : fouS q l = true := by
  unfold reachB at h
  simp only [Bool.and_eq_true] at h
  exact walk_fou' _ l [] (WOk.start q) h.1

/- sizes -/
theorem sel_bulk : ∀ (l : List Sel), Sel.ws l ≤ bulkLL (l.map Sel.enc)
  | [] => by simp [Sel.ws]
  | s :: r => by
    have h1 := sel_bulk r
    have h2 := sel_bulk s.sels
    have hw := Sel.w_eq s
    simp only [List.map_cons, bulkLL, Sel.ws]
    rw [Sel.enc_eq]
    simp only [Sel.cs, bulkL, T.bulk]; omega
termination_by l => SizeOf.sizeOf l
decreasing_by
  all_goals simp_wf
  all_goals (have := Sel.size_sels s; omega)
theorem ops_bulk : ∀ (l : List Op), opsW l ≤ bulkLL (l.map Op.enc)
  | [] => by simp [opsW]
  | o :: r => by
    have h1 := ops_bulk r
    have h2 := sel_bulk o.sels
    rw [opsW_cons]
    simp only [List.map_cons, bulkLL, Op.enc, bulkL, T.bulk]; omega
theorem frags_bulk : ∀ (l : List Frag), frW l ≤ bulkLL (l.map Frag.enc)
  | [] => by simp [frW]
  | o :: r => by
    have h1 := frags_bulk r
    have h2 := sel_bulk o.sels
    rw [frW_cons]
    simp only [List.map_cons, bulkLL, Frag.enc, bulkL, T.bulk]; omega
end Go.GB.C11

