/-
  YtjbpmfglccfkaaaGreatDoorP7: lemmas of this proof (part 7). No conditions.
-/
import Derived.Test.YtjbpmfglccfkaaaGreatDoorP6
import Derived.KernelRfl
import Derived.Test.YtjbpmfglccfkaaaGreatDoorP2
import Derived.Carry
import Derived.Handed
import Derived.ChangeSame
import Derived.ProofKit
import Derived.OpenShut
import Derived.JoinedCond
import Derived.Deep.CondSized

/-
  F25C: moves: fields that are mentioned in a graph, and fields that graphs lean on.
-/
namespace Go.GB.C23
open Go.GB Go.GB.C11
set_option linter.unusedSimpArgs false
set_option linter.unusedVariables false
set_option maxRecDepth 100000
set_option maxHeartbeats 4000000
variable {P : Program}

/-- a field that another one requires -/
def reqM (f : Str) (l : List Field) : Bool := l.any fun x => decide (f ∈ setM x.dirs ([114, 101, 113, 117, 105, 114, 101, 115] : Str))
theorem leant1_ok (H : Pr25 P) (x : Field) (hx : FK x) (f : Str) : FnOk P 69 [x.v, .ptr 0 0] ⟨[(0, .cells [.t (.str f)])], 1⟩ { v := .t (.bool (decide (f ∈ setM x.dirs ([114, 101, 113, 117, 105, 114, 101, 115] : Str)))), rd := true } := by
  have hs := setM_le x.dirs ([114, 101, 113, 117, 105, 114, 101, 115] : Str)
  refine FnOk.run H.i69 H.mixed rfl rfl ?_
  refine fR rfl ?_
  refine Mid.call (set_ok H x.dirs hx.d ([114, 101, 113, 117, 105, 114, 101, 115] : Str)) rfl rfl rfl rfl ?_
  refine fM rfl ?_
  refine Mid.call (contains_ok H.toPr (setM x.dirs ([114, 101, 113, 117, 105, 114, 101, 115] : Str)) (by omega) f) rfl rfl rfl rfl ?_
  refine fM rfl ?_
  refine Run.fin rfl (EndOk.sameX rfl rfl rfl (by first | exact rfl | exact nSto_bd | exact tSto_bd) (.t (rfl)))
theorem indexFL_ok (H : Pr25 P) (l : List Field) (hl : l.length ≤ 140737488355328) (hx : ∀ x, x ∈ l → FK x) (f : Str) : FnOk P 93 [.t (.lst (l.map Field.enc)), .fn 69 [(0, 0)]] ⟨[(0, .cells [.t (.str f)])], 1⟩ { v := .t (.int .i64 (idxG (fun x => decide (f ∈ setM x.dirs ([114, 101, 113, 117, 105, 114, 101, 115] : Str))) 0 l)), rd := true } := by
  refine FnOk.run H.i93 H.mixed rfl rfl ?_
  refine fR rfl ?_
  refine lM rfl rfl rfl ?_
  refine fM rfl ?_
  refine rList l (fun i (_ : Unit) => { env := [(0, .t (.lst (l.map Field.enc))), (1, .fn 69 [(0, 0)]), (7, .t (.int .i64 l.length)), (8, .t (.int .i64 i))], s := ⟨[(0, .cells [.t (.str f)])], 1⟩ }) (fun r i _ => idxG (fun x => decide (f ∈ setM x.dirs ([114, 101, 113, 117, 105, 114, 101, 115] : Str))) 0 l = idxG (fun x => decide (f ∈ setM x.dirs ([114, 101, 113, 117, 105, 114, 101, 115] : Str))) i r) 1 () rfl rfl rfl rfl rfl ?_ ?_
  · intro _ hinv
    refine fR rfl ?_
    refine Run.condF rfl rfl (by simp) ?_
    refine fR rfl ?_
    refine Run.fin rfl (EndOk.sameX rfl rfl rfl (by first | exact rfl | exact nSto_bd | exact tSto_bd) (.t ((by rw [hinv]; rfl))))
  · intro i x r _ h1 hi hd hinv ih
    refine fR rfl ?_
    refine Run.condT rfl rfl (by simp; omega) ?_
    refine fR rfl ?_
    refine Mid.elemMap rfl rfl rfl h1 rfl rfl ?_
    refine fM rfl ?_
    refine Mid.callvS rfl (leant1_ok H x (hx x (List.mem_of_getElem? h1)) f) rfl rfl rfl rfl ?_
    refine fM rfl ?_
    refine Run.cond rfl rfl (fun hc => ?_) (fun hc => ?_)
    · refine fR rfl ?_
      refine Run.fin rfl (EndOk.sameX rfl rfl rfl (by first | exact rfl | exact nSto_bd | exact tSto_bd) (.t ((by rw [hinv]; simp only [idxG]; rw [if_pos hc]))))
    · refine fR rfl ?_
      refine aL rfl rfl rfl rfl rfl ?_
      refine fM rfl ?_
      have h' : ¬ decide (f ∈ setM x.dirs ([114, 101, 113, 117, 105, 114, 101, 115] : Str)) = true := by rw [hc]; simp
      exact rWeak 1 rfl (ih () (by rw [hinv]; simp only [idxG]; rw [if_neg h']; rfl)) rfl rfl rfl
theorem containsFL_ok (H : Pr25 P) (l : List Field) (hl : l.length ≤ 140737488355328) (hx : ∀ x, x ∈ l → FK x) (f : Str) : FnOk P 68 [.t (.lst (l.map Field.enc)), .fn 69 [(0, 0)]] ⟨[(0, .cells [.t (.str f)])], 1⟩ { v := .t (.bool (reqM f l)), rd := true } := by
  refine FnOk.run H.i68 H.mixed rfl rfl ?_
  refine fR rfl ?_
  refine Mid.callS (indexFL_ok H l hl hx f) rfl rfl (by first | exact rfl | exact nSto_bd | exact tSto_bd) rfl ?_
  refine fM rfl ?_
  refine Run.fin rfl (EndOk.sameX rfl rfl rfl (by first | exact rfl | exact nSto_bd | exact tSto_bd) (.t ((by unfold reqM; rw [← idxG_ge (fun x => decide (f ∈ setM x.dirs ([114, 101, 113, 117, 105, 114, 101, 115] : Str))) l 0 (by omega)]))))

/-- does a graph lean on a field? -/
def leaG (n f : Str) (g : Graph) : Bool := !(((findDef n g.doc).getD Def.zero).kind != 1) && (isKeyM ((findDef n g.doc).getD Def.zero).dirs f || reqM f ((findDef n g.doc).getD Def.zero).fields)
theorem leant_ok (H : Pr25 P) (gs : List Graph) (hl : gs.length ≤ 140737488355328) (gk : ∀ g, g ∈ gs → GK g.doc) (out : List Fault) (n f : Str) : FnOk P 43 [.ptr 0 0, .t (.str n), .t (.str f)] ⟨[(0, .cells [.t (.lst (gs.map Graph.enc)), .own 1 2 (out.map Fault.enc)]), (1, .arr out.length)], 2⟩ { v := .t (.bool (gs.any (leaG n f))), rd := true } := by
  refine FnOk.run H.i43 H.mixed rfl rfl ?_
  refine fR rfl ?_
  refine lM rfl rfl rfl ?_
  refine fM rfl ?_
  refine rList gs (fun i (_ : Unit) => { env := [(1, .t (.str n)), (5, .ptr 2 0), (14, .t (.lst (gs.map Graph.enc))), (15, .t (.int .i64 gs.length)), (16, .t (.int .i64 i))], s := ⟨[(0, .cells [.t (.lst (gs.map Graph.enc)), .own 1 2 (out.map Fault.enc)]), (1, .arr out.length), (2, .cells [.t (.str f)])], 3⟩ }) (fun r i _ => gs.any (leaG n f) = r.any (leaG n f)) 3 () rfl rfl rfl rfl rfl ?_ ?_
  · intro _ hinv
    refine fR rfl ?_
    refine Run.condF rfl rfl (by simp) ?_
    refine fR rfl ?_
    refine Run.fin rfl (EndOk.sameX rfl rfl rfl (by first | exact rfl | exact nSto_bd | exact tSto_bd) (.t ((by rw [hinv]; rfl))))
  · intro i g r _ h1 hi hd hinv ih
    have hgg := gk g (List.mem_of_getElem? h1)
    have hT := hgg.find n
    have hfl := hT.fl
    refine fR rfl ?_
    refine Run.condT rfl rfl (by simp; omega) ?_
    refine fR rfl ?_
    refine Mid.elemMap rfl rfl rfl h1 rfl rfl ?_
    refine fM rfl ?_
    refine Mid.call (find_ok H.toPr g.doc hgg.len n) rfl rfl rfl rfl ?_
    refine fM rfl ?_
    refine Run.cond rfl rfl (fun hk => ?_) (fun hk => ?_)
    · have hk' : (((findDef n g.doc).getD Def.zero).kind != 1) = true := hk
      refine fR rfl ?_
      refine aL rfl rfl rfl rfl rfl ?_
      refine fM rfl ?_
      exact rWeak 3 rfl (ih () (by rw [hinv, List.any_cons, show leaG n f g = false by unfold leaG; rw [hk']; rfl]; rfl)) rfl rfl rfl
    · have hk' : (((findDef n g.doc).getD Def.zero).kind != 1) = false := hk
      refine fR rfl ?_
      refine Mid.call (isKey_ok H ((findDef n g.doc).getD Def.zero) hT.d f) rfl rfl rfl rfl ?_
      refine fM rfl ?_
      refine Mid.callRG [2] rfl rfl (fun hg => ⟨_, containsFL_ok H ((findDef n g.doc).getD Def.zero).fields (by omega) hT.f f, rfl, rfl⟩) rfl (by simp [stoBd]; simp [AObj.bd, V.bds, V.bd]) (by repeat' (first | exact trivial | exact rfl | refine And.intro ?_ ?_ | exact (congrArg some (AObj.ren_mE _ _ _ _ _ _)).symm | exact (congrArg some (AObj.ren_cE _ _ _)).symm)) rfl ?_
      refine fM rfl ?_
      refine Run.cond rfl rfl (fun hc => ?_) (fun hc => ?_)
      · have hc' : leaG n f g = true := by unfold leaG; rw [hk']; exact hc
        refine fR rfl ?_
        refine Run.fin rfl (EndOk.sameX rfl rfl rfl (by first | exact rfl | exact nSto_bd | exact tSto_bd) (.t ((by rw [hinv, List.any_cons, hc']; rfl))))
      · have hc' : leaG n f g = false := by unfold leaG; rw [hk']; exact hc
        refine fR rfl ?_
        refine aL rfl rfl rfl rfl rfl ?_
        refine fM rfl ?_
        exact rWeak 3 rfl (ih () (by rw [hinv, List.any_cons, hc']; rfl)) rfl rfl rfl

/-- a field of a type that another field of that type provides -/
def prvM (f : Str) (n : Str) (k : Int) (y : Field) : Bool := (k == 1 && y.ty.name == n) && decide (f ∈ setM y.dirs ([112, 114, 111, 118, 105, 100, 101, 115] : Str))
def menM (ds : List Def) (t : Def) (f : Str) : Bool := isKeyM t.dirs f || (reqM f t.fields || ds.any fun x => x.fields.any (prvM f t.name x.kind))
theorem mentioned_ok (H : Pr25 P) (g : Graph) (gk : GK g.doc) (t : Def) (ht : TK t) (f : Str) : FnOk P 41 [g.v, t.v, .t (.str f)] ⟨[], 0⟩ { v := .t (.bool (menM g.doc t f)) } := by
  have hfl := ht.fl
  have hgl := gk.l
  refine FnOk.run H.i41 H.mixed rfl rfl ?_
  refine fR rfl ?_
  refine Mid.call (isKey_ok H t ht.d f) rfl rfl rfl rfl ?_
  refine fM rfl ?_
  refine Run.cond rfl rfl (fun h => ?_) (fun h => ?_)
  · have h' : isKeyM t.dirs f = true := h
    refine fR rfl ?_
    refine Run.fin rfl (EndOk.go ?_); exact .t (by unfold menM; rw [h']; rfl)
  · have h' : isKeyM t.dirs f = false := h
    have e0 : menM g.doc t f = (reqM f t.fields || g.doc.any fun x => x.fields.any (prvM f t.name x.kind)) := by unfold menM; rw [h']; rfl
    rw [e0]
    refine fR rfl ?_
    refine lM rfl rfl rfl ?_
    refine fM rfl ?_
    refine rList t.fields (fun i (_ : Unit) => { env := [(2, .t (.str f)), (3, .ptr 0 0), (4, .ptr 1 0), (17, .t (.lst (t.fields.map Field.enc))), (18, .t (.int .i64 t.fields.length)), (19, .t (.int .i64 i))], s := ⟨[(0, .cells [.t (.str g.name), .t (.lst (g.doc.map Def.enc))]), (1, (.cells [.t (.int .i64 t.kind), .t (.str t.name), .t (.lst (t.implements.map sE)), .t (.lst (t.dirs.map Dir.enc)), .t (.lst (t.fields.map Field.enc)), .t (.lst (t.members.map Member.enc)), .t (.lst (t.inputs.map Input.enc))]))], 2⟩ }) (fun r i _ => reqM f t.fields = reqM f r) 2 () rfl rfl rfl rfl rfl ?_ ?_
    · intro _ hinv
      have hinv' : reqM f t.fields = false := hinv
      rw [hinv', Bool.false_or]
      refine fR rfl ?_
      refine Run.condF rfl rfl (by simp) ?_
      refine fR rfl ?_
      refine lM rfl rfl rfl ?_
      refine fM rfl ?_
      refine rList g.doc (fun i (_ : Unit) => { env := [(2, .t (.str f)), (4, .ptr 1 0), (31, .t (.lst (g.doc.map Def.enc))), (32, .t (.int .i64 g.doc.length)), (33, .t (.int .i64 i))], s := ⟨[(1, (.cells [.t (.int .i64 t.kind), .t (.str t.name), .t (.lst (t.implements.map sE)), .t (.lst (t.dirs.map Dir.enc)), .t (.lst (t.fields.map Field.enc)), .t (.lst (t.members.map Member.enc)), .t (.lst (t.inputs.map Input.enc))]))], 2⟩ }) (fun r i _ => (g.doc.any fun x => x.fields.any (prvM f t.name x.kind)) = r.any fun x => x.fields.any (prvM f t.name x.kind)) 2 () rfl rfl rfl rfl rfl ?_ ?_
      · intro _ hinv2
        refine fR rfl ?_
        refine Run.condF rfl rfl (by simp) ?_
        refine fR rfl ?_
        refine Run.fin rfl (EndOk.go ?_); exact .t (by rw [hinv2]; rfl)
      · intro i x r _ h1 hi hd hinv2 ih
        have hx := gk.t x (List.mem_of_getElem? h1)
        have hxl := hx.fl
        refine fR rfl ?_
        refine Run.condT rfl rfl (by simp; omega) ?_
        refine fR rfl ?_
        refine Mid.elemMap rfl rfl rfl h1 rfl rfl ?_
        refine fM rfl ?_
        refine lM rfl rfl rfl ?_
        refine fM rfl ?_
        refine rList x.fields (fun j (_ : Unit) => { env := [(2, .t (.str f)), (4, .ptr 1 0), (10, .ptr 2 0), (31, .t (.lst (g.doc.map Def.enc))), (32, .t (.int .i64 g.doc.length)), (33, .t (.int .i64 i)), (38, .t (.lst (x.fields.map Field.enc))), (39, .t (.int .i64 x.fields.length)), (40, .t (.int .i64 j))], s := ⟨[(1, (.cells [.t (.int .i64 t.kind), .t (.str t.name), .t (.lst (t.implements.map sE)), .t (.lst (t.dirs.map Dir.enc)), .t (.lst (t.fields.map Field.enc)), .t (.lst (t.members.map Member.enc)), .t (.lst (t.inputs.map Input.enc))])), (2, (.cells [.t (.int .i64 x.kind), .t (.str x.name), .t (.lst (x.implements.map sE)), .t (.lst (x.dirs.map Dir.enc)), .t (.lst (x.fields.map Field.enc)), .t (.lst (x.members.map Member.enc)), .t (.lst (x.inputs.map Input.enc))]))], 3⟩ }) (fun r2 j _ => (g.doc.any fun x => x.fields.any (prvM f t.name x.kind)) = (r2.any (prvM f t.name x.kind) || r.any fun x => x.fields.any (prvM f t.name x.kind))) 3 () rfl (by rw [hinv2, List.any_cons]) rfl rfl rfl ?_ ?_
        · intro _ hinv3
          refine fR rfl ?_
          refine Run.condF rfl rfl (by simp) ?_
          refine fR rfl ?_
          refine aL rfl rfl rfl rfl rfl ?_
          refine fM rfl ?_
          exact rWeak 2 rfl (ih () (by rw [hinv3]; rfl)) rfl rfl rfl
        · intro j y r2 _ h2 hj hjd hinv3 ih3
          have hy := hx.f y (List.mem_of_getElem? h2)
          have hs := setM_le y.dirs ([112, 114, 111, 118, 105, 100, 101, 115] : Str)
          refine fR rfl ?_
          refine Run.condT rfl rfl (by simp; omega) ?_
          refine fR rfl ?_
          refine Mid.elemMap rfl rfl rfl h2 rfl rfl ?_
          refine fM rfl ?_
          refine caG rfl rfl (fun hg => ⟨_, rfl, set_ok H y.dirs hy.d ([112, 114, 111, 118, 105, 100, 101, 115] : Str), rfl⟩) rfl rfl ?_
          refine fM rfl ?_
          refine caG rfl rfl (fun hg => ⟨_, rfl, contains_ok H.toPr (setM y.dirs ([112, 114, 111, 118, 105, 100, 101, 115] : Str)) (by omega) f, rfl⟩) rfl rfl ?_
          refine fM rfl ?_
          refine Run.cond rfl rfl (fun hc => ?_) (fun hc => ?_)
          · have hc' : prvM f t.name x.kind y = true := hc
            refine fR rfl ?_
            refine Run.fin rfl (EndOk.go ?_); exact .t (by rw [hinv3, List.any_cons, hc']; rfl)
          · have hc' : prvM f t.name x.kind y = false := hc
            refine fR rfl ?_
            refine aL rfl rfl rfl rfl rfl ?_
            refine fM rfl ?_
            exact rWeak 3 rfl (ih3 () (by rw [hinv3, List.any_cons, hc']; rfl)) rfl rfl rfl
    · intro i x r _ h1 hi hd hinv ih
      have hx := ht.f x (List.mem_of_getElem? h1)
      have hs := setM_le x.dirs ([114, 101, 113, 117, 105, 114, 101, 115] : Str)
      refine fR rfl ?_
      refine Run.condT rfl rfl (by simp; omega) ?_
      refine fR rfl ?_
      refine Mid.elemMap rfl rfl rfl h1 rfl rfl ?_
      refine fM rfl ?_
      refine Mid.call (set_ok H x.dirs hx.d ([114, 101, 113, 117, 105, 114, 101, 115] : Str)) rfl rfl rfl rfl ?_
      refine fM rfl ?_
      refine Mid.call (contains_ok H.toPr (setM x.dirs ([114, 101, 113, 117, 105, 114, 101, 115] : Str)) (by omega) f) rfl rfl rfl rfl ?_
      refine fM rfl ?_
      refine Run.cond rfl rfl (fun hc => ?_) (fun hc => ?_)
      · have hc' : decide (f ∈ setM x.dirs ([114, 101, 113, 117, 105, 114, 101, 115] : Str)) = true := hc
        refine fR rfl ?_
        refine Run.fin rfl (EndOk.go ?_); exact .t (by rw [hinv, reqM, List.any_cons, hc']; rfl)
      · have hc' : decide (f ∈ setM x.dirs ([114, 101, 113, 117, 105, 114, 101, 115] : Str)) = false := hc
        refine fR rfl ?_
        refine aL rfl rfl rfl rfl rfl ?_
        refine fM rfl ?_
        exact rWeak 2 rfl (ih () (by rw [hinv, reqM, List.any_cons, hc']; rfl)) rfl rfl rfl
end Go.GB.C23


/-
  F25D: moves: violations of keys.
-/
namespace Go.GB.C23
open Go.GB Go.GB.C11
set_option linter.unusedSimpArgs false
set_option linter.unusedVariables false
set_option maxRecDepth 100000
set_option maxHeartbeats 4000000
variable {P : Program}

def ifM (c : Bool) (x : Fault) : List Fault := if c then [x] else []
theorem ifM_len (c : Bool) (x : Fault) : (ifM c x).length ≤ 1 := by cases c <;> simp [ifM]
theorem add25T_ok (H : Pr25 P) (gs : List Graph) (out : List Fault) (hl : out.length ≤ 4398046511104) (e : Int) (g : Graph) (a : Str) (hn : g.name.length ≤ 140737488355328) (ha : a.length ≤ 1125899906842624) : FnOk P 40 [.ptr 0 0, .t (.bool true), .t (.int .i64 e), g.v, .t (.str a)] ⟨[(0, .cells [.t (.lst (gs.map Graph.enc)), .own 1 2 (List.map Fault.enc (out))]), (1, .arr (out).length)], 2⟩ { v := .tup [], ob := [(0, .cells [.t (.lst (gs.map Graph.enc)), .own 1 2 (List.map Fault.enc (out ++ [(⟨e, g.name ++ [58] ++ a⟩ : Fault)]))]), (1, .arr (out ++ [(⟨e, g.name ++ [58] ++ a⟩ : Fault)]).length)], rd := true } := by
  refine FnOk.run H.i40 H.mixed rfl rfl ?_
  refine fR rfl ?_
  refine Run.condT rfl rfl rfl ?_
  refine fR rfl ?_
  refine pu rfl ?_
  refine fM rfl ?_
  refine pu rfl ?_
  refine fM rfl ?_
  refine apM Fault.enc out [(⟨e, g.name ++ [58] ++ a⟩ : Fault)] rfl rfl rfl rfl rfl ?_ (h1 := by first | omega | (simp; omega) | (simp; done)) (h2 := by first | omega | (simp; omega) | (simp; done))
  refine fM rfl ?_
  refine Run.fin rfl (EndOk.chg rfl rfl ?_ ?_)
  · exact .le (.same rfl)
  · exact (by repeat' (first | exact trivial | exact LeX.t | exact LeX.top | exact LeX.nilOwn (Nat.le_of_ble_eq_true rfl) (Nat.le_of_ble_eq_true rfl) | exact LeX.ownT | exact LeX.nilT | exact LeX.same rfl | exact LeX.tEq (by simp) | exact LeX.ownEq (by simp) (Nat.le_of_ble_eq_true rfl) | exact LeX.tEq (by congr 1 <;> omega) | exact Or.inr ⟨Nat.le_of_ble_eq_true rfl, Nat.le_of_ble_eq_true rfl, rfl⟩ | refine Or.inl ⟨Nat.le_of_ble_eq_true rfl, _, rfl, ?_⟩ | refine LeO.cells ?_ | exact LeO.arr rfl | exact LeO.arr (by simp) | exact LeO.mE (by first | rfl | simp) (by first | exact Or.inl rfl | exact Or.inr rfl) | exact LeO.cE (by first | rfl | simp) | exact LeXs.cE (by first | rfl | simp) | refine LeO.map (by first | rfl | simp) ?_ (by first | exact Or.inl rfl | exact Or.inr rfl) | exact LeO.iter (by first | rfl | simp) (Nat.le_of_ble_eq_true rfl) | refine LeXs.cons ?_ ?_ | exact LeXs.nil | refine And.intro ?_ ?_))
theorem add25F_ok (H : Pr25 P) (gs : List Graph) (out : List Fault) (e : Int) (g : Graph) (a : Str) : FnOk P 40 [.ptr 0 0, .t (.bool false), .t (.int .i64 e), g.v, .t (.str a)] ⟨[(0, .cells [.t (.lst (gs.map Graph.enc)), .own 1 2 (List.map Fault.enc (out))]), (1, .arr (out).length)], 2⟩ { v := .tup [], ob := [(0, .cells [.t (.lst (gs.map Graph.enc)), .own 1 2 (List.map Fault.enc (out))]), (1, .arr (out).length)], rd := true } := by
  refine FnOk.run H.i40 H.mixed rfl rfl ?_
  refine fR rfl ?_
  refine Run.condF rfl rfl rfl ?_
  skip
  refine Run.fin rfl (EndOk.chg rfl rfl ?_ ?_)
  · exact .le (.same rfl)
  · exact (by repeat' (first | exact trivial | exact LeX.t | exact LeX.top | exact LeX.nilOwn (Nat.le_of_ble_eq_true rfl) (Nat.le_of_ble_eq_true rfl) | exact LeX.ownT | exact LeX.nilT | exact LeX.same rfl | exact LeX.tEq (by simp) | exact LeX.ownEq (by simp) (Nat.le_of_ble_eq_true rfl) | exact LeX.tEq (by congr 1 <;> omega) | exact Or.inr ⟨Nat.le_of_ble_eq_true rfl, Nat.le_of_ble_eq_true rfl, rfl⟩ | refine Or.inl ⟨Nat.le_of_ble_eq_true rfl, _, rfl, ?_⟩ | refine LeO.cells ?_ | exact LeO.arr rfl | exact LeO.arr (by simp) | exact LeO.mE (by first | rfl | simp) (by first | exact Or.inl rfl | exact Or.inr rfl) | exact LeO.cE (by first | rfl | simp) | exact LeXs.cE (by first | rfl | simp) | refine LeO.map (by first | rfl | simp) ?_ (by first | exact Or.inl rfl | exact Or.inr rfl) | exact LeO.iter (by first | rfl | simp) (Nat.le_of_ble_eq_true rfl) | refine LeXs.cons ?_ ?_ | exact LeXs.nil | refine And.intro ?_ ?_))
theorem add25_ok (H : Pr25 P) (gs : List Graph) (out : List Fault) (c : Bool) (e : Int) (g : Graph) (a : Str) (hn : g.name.length ≤ 140737488355328) (ha : a.length ≤ 1125899906842624) (hl : out.length ≤ 4398046511104) : FnOk P 40 [.ptr 0 0, .t (.bool c), .t (.int .i64 e), g.v, .t (.str a)] ⟨[(0, .cells [.t (.lst (gs.map Graph.enc)), .own 1 2 (List.map Fault.enc (out))]), (1, .arr (out).length)], 2⟩ { v := .tup [], ob := [(0, .cells [.t (.lst (gs.map Graph.enc)), .own 1 2 (List.map Fault.enc (out ++ ifM c ⟨e, g.name ++ [58] ++ a⟩))]), (1, .arr (out ++ ifM c ⟨e, g.name ++ [58] ++ a⟩).length)], rd := true } := by
  cases c with
  | true => exact add25T_ok H gs out hl e g a hn ha
  | false => rw [show out ++ ifM false ⟨e, g.name ++ [58] ++ a⟩ = out from List.append_nil _]; exact add25F_ok H gs out e g a

/- keys -/
def rootB (n : Str) : Bool := (n == [81, 117, 101, 114, 121] || n == [77, 117, 116, 97, 116, 105, 111, 110]) || n == [83, 117, 98, 115, 99, 114, 105, 112, 116, 105, 111, 110]
/-- a type that is not null, of a leaf type -/
def plainM (ds : List Def) (x : Field) : Bool := (match x.ty.wraps with | [w] => w == 1 | _ => false) && leafM ds x.ty.name
def keyN (ds : List Def) (t : Def) (b : Bool) (n : Str) : Bool :=
  ((b || !(findField n t.fields).isSome) || decide ((((findField n t.fields).getD Field.zero).args.length : Int) > 0)) || !plainM ds ((findField n t.fields).getD Field.zero)
def keyB (ds : List Def) (t : Def) (i : Nat) (k : List Str) : Bool := k.foldl (keyN ds t) ((decide ((i : Int) ≥ 4) || rootB t.name) || ((k.length : Int) == 0))
def keyL (g : Graph) (t : Def) : Nat → List (List Str) → List Fault
  | _, [] => []
  | i, k :: r => ifM (keyB g.doc t i k) ⟨41, g.name ++ [58] ++ t.name⟩ ++ keyL g t (i + 1) r
theorem keyL_len (g : Graph) (t : Def) : ∀ (l : List (List Str)) (i : Nat), (keyL g t i l).length ≤ l.length
  | [], i => by simp [keyL]
  | k :: r, i => by
    have h1 := keyL_len g t r (i + 1)
    have h2 := ifM_len (keyB g.doc t i k) ⟨41, g.name ++ [58] ++ t.name⟩
    simp only [keyL, List.length_append, List.length_cons]; omega

theorem keys_ok (H : Pr25 P) (gs : List Graph) (g : Graph) (gk : GK g.doc) (gn : g.name.length ≤ 140737488355328) (t : Def) (ht : TK t) (out : List Fault) (hl : out.length ≤ 2199023255552) : FnOk P 18 [.ptr 0 0, g.v, t.v] ⟨[(0, .cells [.t (.lst (gs.map Graph.enc)), .own 1 2 (List.map Fault.enc (out))]), (1, .arr (out).length)], 2⟩ { v := .tup [], ob := [(0, .cells [.t (.lst (gs.map Graph.enc)), .own 1 2 (List.map Fault.enc (out ++ keyL g t 0 (keysD t.dirs)))]), (1, .arr (out ++ keyL g t 0 (keysD t.dirs)).length)], rd := true } := by
  have hfl := ht.fl
  have hdl := ht.d.l
  have hkl := keysD_len t.dirs
  have hkm := fun k (h : k ∈ keysD t.dirs) => keysD_mem h
  have hko := keysOf_ok H t ht.d
  generalize keysD t.dirs = K at hkl hkm hko
  have hR : ∀ R, out ++ keyL g t 0 K = R → FnOk P 18 [.ptr 0 0, g.v, t.v] ⟨[(0, .cells [.t (.lst (gs.map Graph.enc)), .own 1 2 (List.map Fault.enc (out))]), (1, .arr (out).length)], 2⟩ { v := .tup [], ob := [(0, .cells [.t (.lst (gs.map Graph.enc)), .own 1 2 (List.map Fault.enc (R))]), (1, .arr (R).length)], rd := true } := by
    intro R hR
    refine FnOk.run H.i18 H.mixed rfl rfl ?_
    refine fR rfl ?_
    refine Mid.call (hko) rfl rfl rfl rfl ?_
    refine lM rfl rfl rfl ?_
    refine fM rfl ?_
    refine rList K (fun i (B : List Fault) => { env := [(0, .ptr 0 0), (4, .ptr 2 0), (5, .ptr 3 0), (6, .t (.bool (rootB t.name))), (29, .t (.lst (K.map lE))), (30, .t (.int .i64 K.length)), (31, .t (.int .i64 i))], s := ⟨[(0, .cells [.t (.lst (gs.map Graph.enc)), .own 1 2 (List.map Fault.enc (B))]), (1, .arr B.length), (2, (.cells [.t (.str g.name), .t (.lst (g.doc.map Def.enc))])), (3, (.cells [.t (.int .i64 t.kind), .t (.str t.name), .t (.lst (t.implements.map sE)), .t (.lst (t.dirs.map Dir.enc)), .t (.lst (t.fields.map Field.enc)), .t (.lst (t.members.map Member.enc)), .t (.lst (t.inputs.map Input.enc))]))], 4⟩ }) (fun r i B => B.length ≤ out.length + i ∧ B ++ keyL g t i r = R) 4 out rfl ⟨by simp, hR⟩ rfl rfl rfl ?_ ?_
    · rintro B ⟨_, hB⟩
      obtain rfl : B = R := by rw [← hB]; simp [keyL]
      refine fR rfl ?_
      refine Run.condF rfl rfl (by simp) ?_
      skip
      refine Run.fin rfl (EndOk.chg rfl rfl ?_ ?_)
      · exact .le (.same rfl)
      · exact (by repeat' (first | exact trivial | exact LeX.t | exact LeX.top | exact LeX.nilOwn (Nat.le_of_ble_eq_true rfl) (Nat.le_of_ble_eq_true rfl) | exact LeX.ownT | exact LeX.nilT | exact LeX.same rfl | exact LeX.tEq (by simp) | exact LeX.ownEq (by simp) (Nat.le_of_ble_eq_true rfl) | exact LeX.tEq (by congr 1 <;> omega) | exact Or.inr ⟨Nat.le_of_ble_eq_true rfl, Nat.le_of_ble_eq_true rfl, rfl⟩ | refine Or.inl ⟨Nat.le_of_ble_eq_true rfl, _, rfl, ?_⟩ | refine LeO.cells ?_ | exact LeO.arr rfl | exact LeO.arr (by simp) | exact LeO.mE (by first | rfl | simp) (by first | exact Or.inl rfl | exact Or.inr rfl) | exact LeO.cE (by first | rfl | simp) | exact LeXs.cE (by first | rfl | simp) | refine LeO.map (by first | rfl | simp) ?_ (by first | exact Or.inl rfl | exact Or.inr rfl) | exact LeO.iter (by first | rfl | simp) (Nat.le_of_ble_eq_true rfl) | refine LeXs.cons ?_ ?_ | exact LeXs.nil | refine And.intro ?_ ?_))
    · rintro i k r B h1 hi hd ⟨hBl, hB⟩ ih
      have hBl' : B.length ≤ out.length + i := hBl
      have hB2 : B ++ (ifM (keyB g.doc t i k) ⟨41, g.name ++ [58] ++ t.name⟩ ++ keyL g t (i + 1) r) = R := hB
      have hk := hkm k (List.mem_of_getElem? h1)
      refine fR rfl ?_
      refine Run.condT rfl rfl (by simp; omega) ?_
      refine fR rfl ?_
      refine Mid.elemMap rfl rfl rfl h1 rfl rfl ?_
      refine fM rfl ?_
      refine lMG rfl rfl rfl rfl ?_
      refine fM rfl ?_
      refine lM rfl rfl rfl ?_
      refine fM rfl ?_
      refine rList k (fun j (b : Bool) => { env := [(0, .ptr 0 0), (4, .ptr 2 0), (5, .ptr 3 0), (6, .t (.bool (rootB t.name))), (9, .t (.bool b)), (29, .t (.lst (K.map lE))), (30, .t (.int .i64 K.length)), (31, .t (.int .i64 i)), (46, .t (.lst (k.map sE))), (47, .t (.int .i64 k.length)), (48, .t (.int .i64 j))], s := ⟨[(0, .cells [.t (.lst (gs.map Graph.enc)), .own 1 2 (List.map Fault.enc (B))]), (1, .arr B.length), (2, (.cells [.t (.str g.name), .t (.lst (g.doc.map Def.enc))])), (3, (.cells [.t (.int .i64 t.kind), .t (.str t.name), .t (.lst (t.implements.map sE)), .t (.lst (t.dirs.map Dir.enc)), .t (.lst (t.fields.map Field.enc)), .t (.lst (t.members.map Member.enc)), .t (.lst (t.inputs.map Input.enc))]))], 4⟩ }) (fun r2 j b => keyB g.doc t i k = r2.foldl (keyN g.doc t) b) 4 ((decide ((i : Int) ≥ 4) || rootB t.name) || ((k.length : Int) == 0)) rfl rfl rfl rfl rfl ?_ ?_
      · rintro b hb
        have hb' : keyB g.doc t i k = b := hb
        rw [hb'] at hB2
        have ha := ifM_len b ⟨41, g.name ++ [58] ++ t.name⟩
        refine fR rfl ?_
        refine Run.condF rfl rfl (by simp) ?_
        refine fR rfl ?_
        refine Mid.callR [0, 1] (add25_ok H gs B b 41 g t.name gn (by have := ht.nm; omega) (by omega)) rfl rfl rfl rfl (by simp [stoBd]; simp [AObj.bd, V.bds, V.bd]) (by repeat' (first | exact trivial | exact rfl | refine And.intro ?_ ?_ | exact (congrArg some (AObj.ren_mE _ _ _ _ _ _)).symm | exact (congrArg some (AObj.ren_cE _ _ _)).symm)) rfl rfl (ob' := [(0, .cells [.t (.lst (gs.map Graph.enc)), .own 1 2 (List.map Fault.enc (B ++ ifM b ⟨41, g.name ++ [58] ++ t.name⟩))]), (1, .arr (B ++ ifM b ⟨41, g.name ++ [58] ++ t.name⟩).length)]) (rfl) rfl rfl ?_
        refine fM rfl ?_
        refine aL rfl rfl rfl rfl rfl ?_
        refine fM rfl ?_
        generalize ifM b ⟨41, g.name ++ [58] ++ t.name⟩ = N1 at ha hB2
        exact rWeak 4 rfl (ih (B ++ N1) ⟨by simp; omega, by rw [← hB2]; simp⟩) rfl rfl rfl
      · rintro j n r2 b h2 hj hd2 hb ih2
        have hb' : keyB g.doc t i k = r2.foldl (keyN g.doc t) (keyN g.doc t b n) := hb
        have hF := ht.field n
        have hal := hF.al
        have hwl := hF.w
        unfold keyN at hb'
        refine fR rfl ?_
        refine Run.condT rfl rfl (by simp; omega) ?_
        refine fR rfl ?_
        refine Mid.elemMap rfl rfl rfl h2 rfl rfl ?_
        refine fM rfl ?_
        refine Mid.call (fieldOf_ok H.toPr t (by omega) n) rfl rfl rfl rfl ?_
        refine fM rfl ?_
        refine lM rfl rfl rfl ?_
        refine fM rfl ?_
        unfold plainM at hb'
        generalize (findField n t.fields).getD Field.zero = F at hF hal hwl hb' ⊢
        generalize (findField n t.fields).isSome = ok at hb' ⊢
        by_cases hw : F.ty.wraps.length = 1
        · obtain ⟨w, hw'⟩ := List.length_eq_one_iff.1 hw
          rw [hw'] at hb'
          have h0 : F.ty.wraps[0]? = some w := by rw [hw']; rfl
          have e1 : ((F.ty.wraps.length : Int) == 1) = true := by rw [hw]; rfl
          rw [e1]
          skip
          refine elG rfl rfl rfl rfl h0 rfl rfl ?_
          refine fM rfl ?_
          refine caG rfl rfl (fun hg => ⟨_, rfl, leaf25_ok H g.doc gk F.ty.name, rfl⟩) rfl rfl ?_
          refine fM rfl ?_
          refine lMG rfl rfl rfl rfl ?_
          refine fM rfl ?_
          refine aL rfl rfl rfl rfl rfl ?_
          refine fM rfl ?_
          exact rWeak 4 rfl (ih2 (((b || !ok) || decide ((F.args.length : Int) > 0)) || !((w == 1) && leafM g.doc F.ty.name)) hb') rfl rfl rfl
        · have e1 : ((F.ty.wraps.length : Int) == 1) = false := by simp; omega
          have e2 : (match F.ty.wraps with | [w] => w == 1 | _ => false) = false := by
            cases hc : F.ty.wraps with
            | nil => rfl
            | cons a l => cases l with
              | nil => rw [hc] at hw; exact absurd rfl hw
              | cons => rfl
          rw [e2] at hb'
          rw [e1]
          cases hc : F.ty.wraps with
          | nil =>
            refine Mid.grdF rfl rfl rfl rfl rfl ?_
            refine Mid.grdF rfl rfl rfl rfl rfl ?_
            refine Mid.grdF rfl rfl rfl rfl rfl ?_
            refine fM rfl ?_
            refine Mid.grdF rfl rfl rfl rfl rfl ?_
            refine fM rfl ?_
            refine lMG rfl rfl rfl rfl ?_
            refine fM rfl ?_
            refine aL rfl rfl rfl rfl rfl ?_
            refine fM rfl ?_
            exact rWeak 4 rfl (ih2 (((b || !ok) || decide ((F.args.length : Int) > 0)) || !false) hb') rfl rfl rfl
          | cons a l =>
            refine gr rfl ?_
            refine fM rfl ?_
            refine Mid.grdF rfl rfl rfl rfl rfl ?_
            refine fM rfl ?_
            refine lMG rfl rfl rfl rfl ?_
            refine fM rfl ?_
            refine aL rfl rfl rfl rfl rfl ?_
            refine fM rfl ?_
            exact rWeak 4 rfl (ih2 (((b || !ok) || decide ((F.args.length : Int) > 0)) || !false) hb') rfl rfl rfl
  exact hR _ rfl
end Go.GB.C23


/-
  F25E: moves: violations of fields.
-/
namespace Go.GB.C23
open Go.GB Go.GB.C11
set_option linter.unusedSimpArgs false
set_option linter.unusedVariables false
set_option maxRecDepth 100000
set_option maxHeartbeats 4000000
variable {P : Program}

def placeM (g : Graph) (t : Def) (x : Field) : Str := g.name ++ [58] ++ (t.name ++ [46] ++ x.name)
def c1M (gs : List Graph) (a : Nat) (g : Graph) (t : Def) (x : Field) : Bool := hasD ([101, 120, 116, 101, 114, 110, 97, 108] : Str) x.dirs && (!menM g.doc t x.name || !othM a t.name x.name 0 gs)
def c2M (gs : List Graph) (g : Graph) (t : Def) (x : Field) : Bool := hasD ([114, 101, 113, 117, 105, 114, 101, 115] : Str) x.dirs && (((hasD ([101, 120, 116, 101, 114, 110, 97, 108] : Str) x.dirs || gs.any (leaG t.name x.name)) || (((keysD t.dirs).length : Int) == 0)) || !outM g.doc t (setM x.dirs ([114, 101, 113, 117, 105, 114, 101, 115] : Str)))
def c3M (g : Graph) (x : Field) : Bool := (!(findDef x.ty.name g.doc).isSome || ((findDef x.ty.name g.doc).getD Def.zero).kind != 1) || !outM g.doc ((findDef x.ty.name g.doc).getD Def.zero) (setM x.dirs ([112, 114, 111, 118, 105, 100, 101, 115] : Str))
def c4M (gs : List Graph) (a : Nat) (t : Def) (x : Field) : Bool := (!hasD ([101, 120, 116, 101, 114, 110, 97, 108] : Str) x.dirs && othM a t.name x.name 0 gs) && (hasD ([114, 101, 113, 117, 105, 114, 101, 115] : Str) x.dirs || !(hasD ([115, 104, 97, 114, 101, 97, 98, 108, 101] : Str) x.dirs || isKeyM t.dirs x.name))
def fieldF (gs : List Graph) (a : Nat) (g : Graph) (t : Def) (x : Field) : List Fault :=
  ifM (c1M gs a g t x) ⟨42, placeM g t x⟩ ++ (ifM (c2M gs g t x) ⟨43, placeM g t x⟩ ++ ((if hasD ([112, 114, 111, 118, 105, 100, 101, 115] : Str) x.dirs = true then ifM (c3M g x) ⟨44, placeM g t x⟩ else []) ++ ifM (c4M gs a t x) ⟨40, placeM g t x⟩))
theorem fieldF_len (gs : List Graph) (a : Nat) (g : Graph) (t : Def) (x : Field) : (fieldF gs a g t x).length ≤ 4 := by
  have h1 := ifM_len (c1M gs a g t x) ⟨42, placeM g t x⟩
  have h2 := ifM_len (c2M gs g t x) ⟨43, placeM g t x⟩
  have h3 := ifM_len (c3M g x) ⟨44, placeM g t x⟩
  have h4 := ifM_len (c4M gs a t x) ⟨40, placeM g t x⟩
  unfold fieldF
  simp only [List.length_append]
  split
  · omega
  · simp only [List.length_nil]; omega

theorem field_ok (H : Pr25 P) (gs : List Graph) (hl : gs.length ≤ 140737488355328) (gk : ∀ g, g ∈ gs → GK g.doc) (gn : ∀ g, g ∈ gs → g.name.length ≤ 140737488355328) (a : Nat) (g : Graph) (ha : gs[a]? = some g) (t : Def) (ht : TK t) (x : Field) (hx : FK x) (out : List Fault) (hol : out.length ≤ 2199023255552) :
    FnOk P 20 [.ptr 0 0, .t (.int .i64 a), t.v, x.v] ⟨[(0, .cells [.t (.lst (gs.map Graph.enc)), .own 1 2 (List.map Fault.enc (out))]), (1, .arr (out).length)], 2⟩ { v := .tup [], ob := [(0, .cells [.t (.lst (gs.map Graph.enc)), .own 1 2 (List.map Fault.enc (out ++ fieldF gs a g t x))]), (1, .arr (out ++ fieldF gs a g t x).length)], rd := true } := by
  have hgg := gk g (List.mem_of_getElem? ha)
  have hT := hgg.find x.ty.name
  have hdl := ht.d.l
  have hkl := keysD_len t.dirs
  have hgn := gn g (List.mem_of_getElem? ha)
  have hpl : (t.name ++ [46] ++ x.name).length ≤ 1125899906842624 := by have := ht.nm; have := hx.nm; simp; omega
  have htn := ht.nm
  have hxn := hx.nm
  have hs1 := setM_le x.dirs ([114, 101, 113, 117, 105, 114, 101, 115] : Str)
  have hs2 := setM_le x.dirs ([112, 114, 111, 118, 105, 100, 101, 115] : Str)
  have a1 := ifM_len (c1M gs a g t x) ⟨42, placeM g t x⟩
  have a2 := ifM_len (c2M gs g t x) ⟨43, placeM g t x⟩
  have a3 := ifM_len (c3M g x) ⟨44, placeM g t x⟩
  have a4 := ifM_len (c4M gs a t x) ⟨40, placeM g t x⟩
  have hR : ∀ R, out ++ fieldF gs a g t x = R → FnOk P 20 [.ptr 0 0, .t (.int .i64 a), t.v, x.v] ⟨[(0, .cells [.t (.lst (gs.map Graph.enc)), .own 1 2 (List.map Fault.enc (out))]), (1, .arr (out).length)], 2⟩ { v := .tup [], ob := [(0, .cells [.t (.lst (gs.map Graph.enc)), .own 1 2 (List.map Fault.enc (R))]), (1, .arr (R).length)], rd := true } := by
    intro R hR
    unfold fieldF at hR
    refine FnOk.run H.i20 H.mixed rfl rfl ?_
    refine fR rfl ?_
    refine Mid.elemMap rfl rfl rfl ha rfl rfl ?_
    refine fM rfl ?_
    refine pu rfl ?_
    refine fM rfl ?_
    refine pu rfl ?_
    refine fM rfl ?_
    refine Mid.call (hasD_ok H.toPr23 21 x.dirs hx.d.len ([101, 120, 116, 101, 114, 110, 97, 108] : Str) (.inl rfl)) rfl rfl rfl rfl ?_
    refine fM rfl ?_
    refine Mid.call (hasD_ok H.toPr23 21 x.dirs hx.d.len ([114, 101, 113, 117, 105, 114, 101, 115] : Str) (.inl rfl)) rfl rfl rfl rfl ?_
    refine fM rfl ?_
    refine caG rfl rfl (fun hg => ⟨_, rfl, mentioned_ok H g hgg t ht x.name, rfl⟩) rfl rfl ?_
    refine fM rfl ?_
    refine Mid.callRG [0, 1] rfl rfl (fun hg => ⟨_, others_ok H gs hl gk out a t.name x.name, rfl, rfl⟩) rfl (by simp [stoBd]; simp [AObj.bd, V.bds, V.bd]) (by repeat' (first | exact trivial | exact rfl | refine And.intro ?_ ?_ | exact (congrArg some (AObj.ren_mE _ _ _ _ _ _)).symm | exact (congrArg some (AObj.ren_cE _ _ _)).symm)) rfl ?_
    refine fM rfl ?_
    refine Mid.callR [0, 1] (add25_ok H gs out (c1M gs a g t x) 42 g (t.name ++ [46] ++ x.name) hgn hpl (by omega)) rfl rfl rfl rfl (by simp [stoBd]; simp [AObj.bd, V.bds, V.bd]) (by repeat' (first | exact trivial | exact rfl | refine And.intro ?_ ?_ | exact (congrArg some (AObj.ren_mE _ _ _ _ _ _)).symm | exact (congrArg some (AObj.ren_cE _ _ _)).symm)) rfl rfl (ob' := [(0, .cells [.t (.lst (gs.map Graph.enc)), .own 1 2 (List.map Fault.enc (out ++ ifM (c1M gs a g t x) ⟨42, placeM g t x⟩))]), (1, .arr (out ++ ifM (c1M gs a g t x) ⟨42, placeM g t x⟩).length)]) (rfl) rfl rfl ?_
    refine fM rfl ?_
    generalize ifM (c1M gs a g t x) ⟨42, placeM g t x⟩ = N1 at hR a1
    refine Mid.callRG [0, 1] rfl rfl (fun hg => ⟨_, leant_ok H gs hl gk (out ++ N1) t.name x.name, rfl, rfl⟩) rfl (by simp [stoBd]; simp [AObj.bd, V.bds, V.bd]) (by repeat' (first | exact trivial | exact rfl | refine And.intro ?_ ?_ | exact (congrArg some (AObj.ren_mE _ _ _ _ _ _)).symm | exact (congrArg some (AObj.ren_cE _ _ _)).symm)) rfl ?_
    refine fM rfl ?_
    refine caG rfl rfl (fun hg => ⟨_, rfl, keysOf_ok H t ht.d, rfl⟩) rfl rfl ?_
    refine lMG rfl rfl rfl rfl ?_
    refine fM rfl ?_
    refine caG rfl rfl (fun hg => ⟨_, rfl, set_ok H x.dirs hx.d ([114, 101, 113, 117, 105, 114, 101, 115] : Str), rfl⟩) rfl rfl ?_
    skip
    refine caG rfl rfl (fun hg => ⟨_, rfl, outside_ok H g hgg t ht (setM x.dirs ([114, 101, 113, 117, 105, 114, 101, 115] : Str)) (by omega), rfl⟩) rfl rfl ?_
    refine fM rfl ?_
    refine Mid.callR [0, 1] (add25_ok H gs (out ++ N1) (c2M gs g t x) 43 g (t.name ++ [46] ++ x.name) hgn hpl (by simp; omega)) rfl rfl rfl rfl (by simp [stoBd]; simp [AObj.bd, V.bds, V.bd]) (by repeat' (first | exact trivial | exact rfl | refine And.intro ?_ ?_ | exact (congrArg some (AObj.ren_mE _ _ _ _ _ _)).symm | exact (congrArg some (AObj.ren_cE _ _ _)).symm)) rfl rfl (ob' := [(0, .cells [.t (.lst (gs.map Graph.enc)), .own 1 2 (List.map Fault.enc (out ++ N1 ++ ifM (c2M gs g t x) ⟨43, placeM g t x⟩))]), (1, .arr (out ++ N1 ++ ifM (c2M gs g t x) ⟨43, placeM g t x⟩).length)]) (rfl) rfl rfl ?_
    refine fM rfl ?_
    generalize ifM (c2M gs g t x) ⟨43, placeM g t x⟩ = N2 at hR a2
    refine Mid.call (hasD_ok H.toPr23 21 x.dirs hx.d.len ([112, 114, 111, 118, 105, 100, 101, 115] : Str) (.inl rfl)) rfl rfl rfl rfl ?_
    refine fM rfl ?_
    refine Run.cond rfl rfl (fun hp => ?_) (fun hp => ?_)
    · rw [if_pos hp] at hR
      refine fR rfl ?_
      refine Mid.call (find_ok H.toPr g.doc hgg.len x.ty.name) rfl rfl rfl rfl ?_
      refine fM rfl ?_
      refine caG rfl rfl (fun hg => ⟨_, rfl, set_ok H x.dirs hx.d ([112, 114, 111, 118, 105, 100, 101, 115] : Str), rfl⟩) rfl rfl ?_
      skip
      refine caG rfl rfl (fun hg => ⟨_, rfl, outside_ok H g hgg ((findDef x.ty.name g.doc).getD Def.zero) hT (setM x.dirs ([112, 114, 111, 118, 105, 100, 101, 115] : Str)) (by omega), rfl⟩) rfl rfl ?_
      refine fM rfl ?_
      refine Mid.callR [0, 1] (add25_ok H gs (out ++ N1 ++ N2) (c3M g x) 44 g (t.name ++ [46] ++ x.name) hgn hpl (by simp; omega)) rfl rfl rfl rfl (by simp [stoBd]; simp [AObj.bd, V.bds, V.bd]) (by repeat' (first | exact trivial | exact rfl | refine And.intro ?_ ?_ | exact (congrArg some (AObj.ren_mE _ _ _ _ _ _)).symm | exact (congrArg some (AObj.ren_cE _ _ _)).symm)) rfl rfl (ob' := [(0, .cells [.t (.lst (gs.map Graph.enc)), .own 1 2 (List.map Fault.enc (out ++ N1 ++ N2 ++ ifM (c3M g x) ⟨44, placeM g t x⟩))]), (1, .arr (out ++ N1 ++ N2 ++ ifM (c3M g x) ⟨44, placeM g t x⟩).length)]) (rfl) rfl rfl ?_
      refine fM rfl ?_
      generalize ifM (c3M g x) ⟨44, placeM g t x⟩ = N3 at hR a3
      refine Mid.call (hasD_ok H.toPr23 21 x.dirs hx.d.len ([115, 104, 97, 114, 101, 97, 98, 108, 101] : Str) (.inl rfl)) rfl rfl rfl rfl ?_
      refine fM rfl ?_
      refine caG rfl rfl (fun hg => ⟨_, rfl, isKey_ok H t ht.d x.name, rfl⟩) rfl rfl ?_
      refine fM rfl ?_
      refine Mid.callRG [0, 1] rfl rfl (fun hg => ⟨_, others_ok H gs hl gk (out ++ N1 ++ N2 ++ N3) a t.name x.name, rfl, rfl⟩) rfl (by simp [stoBd]; simp [AObj.bd, V.bds, V.bd]) (by repeat' (first | exact trivial | exact rfl | refine And.intro ?_ ?_ | exact (congrArg some (AObj.ren_mE _ _ _ _ _ _)).symm | exact (congrArg some (AObj.ren_cE _ _ _)).symm)) rfl ?_
      refine fM rfl ?_
      refine Mid.callR [0, 1] (add25_ok H gs (out ++ N1 ++ N2 ++ N3) (c4M gs a t x) 40 g (t.name ++ [46] ++ x.name) hgn hpl (by simp; omega)) rfl rfl rfl rfl (by simp [stoBd]; simp [AObj.bd, V.bds, V.bd]) (by repeat' (first | exact trivial | exact rfl | refine And.intro ?_ ?_ | exact (congrArg some (AObj.ren_mE _ _ _ _ _ _)).symm | exact (congrArg some (AObj.ren_cE _ _ _)).symm)) rfl rfl (ob' := [(0, .cells [.t (.lst (gs.map Graph.enc)), .own 1 2 (List.map Fault.enc (out ++ N1 ++ N2 ++ N3 ++ ifM (c4M gs a t x) ⟨40, placeM g t x⟩))]), (1, .arr (out ++ N1 ++ N2 ++ N3 ++ ifM (c4M gs a t x) ⟨40, placeM g t x⟩).length)]) (rfl) rfl rfl ?_
      refine fM rfl ?_
      have hR' : out ++ N1 ++ N2 ++ N3 ++ ifM (c4M gs a t x) ⟨40, placeM g t x⟩ = R := by rw [← hR]; simp
      refine Run.fin rfl (EndOk.chg rfl rfl ?_ ?_)
      · exact .le (.same rfl)
      · rw [hR']
        exact (by repeat' (first | exact trivial | exact LeX.t | exact LeX.top | exact LeX.nilOwn (Nat.le_of_ble_eq_true rfl) (Nat.le_of_ble_eq_true rfl) | exact LeX.ownT | exact LeX.nilT | exact LeX.same rfl | exact LeX.tEq (by simp) | exact LeX.ownEq (by simp) (Nat.le_of_ble_eq_true rfl) | exact LeX.tEq (by congr 1 <;> omega) | exact Or.inr ⟨Nat.le_of_ble_eq_true rfl, Nat.le_of_ble_eq_true rfl, rfl⟩ | refine Or.inl ⟨Nat.le_of_ble_eq_true rfl, _, rfl, ?_⟩ | refine LeO.cells ?_ | exact LeO.arr rfl | exact LeO.arr (by simp) | exact LeO.mE (by first | rfl | simp) (by first | exact Or.inl rfl | exact Or.inr rfl) | exact LeO.cE (by first | rfl | simp) | exact LeXs.cE (by first | rfl | simp) | refine LeO.map (by first | rfl | simp) ?_ (by first | exact Or.inl rfl | exact Or.inr rfl) | exact LeO.iter (by first | rfl | simp) (Nat.le_of_ble_eq_true rfl) | refine LeXs.cons ?_ ?_ | exact LeXs.nil | refine And.intro ?_ ?_))
    · rw [if_neg (by rw [hp]; simp), List.nil_append] at hR
      refine fR rfl ?_
      refine Mid.call (hasD_ok H.toPr23 21 x.dirs hx.d.len ([115, 104, 97, 114, 101, 97, 98, 108, 101] : Str) (.inl rfl)) rfl rfl rfl rfl ?_
      refine fM rfl ?_
      refine caG rfl rfl (fun hg => ⟨_, rfl, isKey_ok H t ht.d x.name, rfl⟩) rfl rfl ?_
      refine fM rfl ?_
      refine Mid.callRG [0, 1] rfl rfl (fun hg => ⟨_, others_ok H gs hl gk (out ++ N1 ++ N2) a t.name x.name, rfl, rfl⟩) rfl (by simp [stoBd]; simp [AObj.bd, V.bds, V.bd]) (by repeat' (first | exact trivial | exact rfl | refine And.intro ?_ ?_ | exact (congrArg some (AObj.ren_mE _ _ _ _ _ _)).symm | exact (congrArg some (AObj.ren_cE _ _ _)).symm)) rfl ?_
      refine fM rfl ?_
      refine Mid.callR [0, 1] (add25_ok H gs (out ++ N1 ++ N2) (c4M gs a t x) 40 g (t.name ++ [46] ++ x.name) hgn hpl (by simp; omega)) rfl rfl rfl rfl (by simp [stoBd]; simp [AObj.bd, V.bds, V.bd]) (by repeat' (first | exact trivial | exact rfl | refine And.intro ?_ ?_ | exact (congrArg some (AObj.ren_mE _ _ _ _ _ _)).symm | exact (congrArg some (AObj.ren_cE _ _ _)).symm)) rfl rfl (ob' := [(0, .cells [.t (.lst (gs.map Graph.enc)), .own 1 2 (List.map Fault.enc (out ++ N1 ++ N2 ++ ifM (c4M gs a t x) ⟨40, placeM g t x⟩))]), (1, .arr (out ++ N1 ++ N2 ++ ifM (c4M gs a t x) ⟨40, placeM g t x⟩).length)]) (rfl) rfl rfl ?_
      refine fM rfl ?_
      have hR' : out ++ N1 ++ N2 ++ ifM (c4M gs a t x) ⟨40, placeM g t x⟩ = R := by rw [← hR]; simp
      refine Run.fin rfl (EndOk.chg rfl rfl ?_ ?_)
      · exact .le (.same rfl)
      · rw [hR']
        exact (by repeat' (first | exact trivial | exact LeX.t | exact LeX.top | exact LeX.nilOwn (Nat.le_of_ble_eq_true rfl) (Nat.le_of_ble_eq_true rfl) | exact LeX.ownT | exact LeX.nilT | exact LeX.same rfl | exact LeX.tEq (by simp) | exact LeX.ownEq (by simp) (Nat.le_of_ble_eq_true rfl) | exact LeX.tEq (by congr 1 <;> omega) | exact Or.inr ⟨Nat.le_of_ble_eq_true rfl, Nat.le_of_ble_eq_true rfl, rfl⟩ | refine Or.inl ⟨Nat.le_of_ble_eq_true rfl, _, rfl, ?_⟩ | refine LeO.cells ?_ | exact LeO.arr rfl | exact LeO.arr (by simp) | exact LeO.mE (by first | rfl | simp) (by first | exact Or.inl rfl | exact Or.inr rfl) | exact LeO.cE (by first | rfl | simp) | exact LeXs.cE (by first | rfl | simp) | refine LeO.map (by first | rfl | simp) ?_ (by first | exact Or.inl rfl | exact Or.inr rfl) | exact LeO.iter (by first | rfl | simp) (Nat.le_of_ble_eq_true rfl) | refine LeXs.cons ?_ ?_ | exact LeXs.nil | refine And.intro ?_ ?_))
  exact hR _ rfl
end Go.GB.C23


/-
  F25F: moves: keys and joins of graphs.
-/
namespace Go.GB.C23
open Go.GB Go.GB.C11
set_option linter.unusedSimpArgs false
set_option linter.unusedVariables false
set_option maxRecDepth 100000
set_option maxHeartbeats 4000000
variable {P : Program}

structure KeyO where
  ty : Str
  graph : Int
  fields : List Str
def KeyO.enc (k : KeyO) : List T := [.str k.ty, .int .i64 k.graph, .lst (k.fields.map sE)]
structure Jn where
  ty : Str
  field : Str
  graph : Int
  ext : Bool
  req : List Str
  prov : List Str
def Jn.enc (j : Jn) : List T := [.str j.ty, .str j.field, .int .i64 j.graph, .bool j.ext, .lst (j.req.map sE), .lst (j.prov.map sE)]
structure Acc where
  k : List KeyO
  j : List Jn
  b : List Fault

def keyOf (i : Nat) (t : Def) (k : List Str) : KeyO := ⟨t.name, i, k⟩
def jnOf (i : Nat) (t : Def) (x : Field) : Jn := ⟨t.name, x.name, i, hasD ([101, 120, 116, 101, 114, 110, 97, 108] : Str) x.dirs, setM x.dirs ([114, 101, 113, 117, 105, 114, 101, 115] : Str), setM x.dirs ([112, 114, 111, 118, 105, 100, 101, 115] : Str)⟩
def kDef (i : Nat) (t : Def) : List KeyO := if t.kind = 1 then (keysD t.dirs).map (keyOf i t) else []
def jDef (i : Nat) (t : Def) : List Jn := if t.kind = 1 then t.fields.map (jnOf i t) else []
def fL (gs : List Graph) (i : Nat) (g : Graph) (t : Def) : List Field → List Fault
  | [] => []
  | x :: r => fieldF gs i g t x ++ fL gs i g t r
def bDef (gs : List Graph) (i : Nat) (g : Graph) (t : Def) : List Fault := if t.kind = 1 then keyL g t 0 (keysD t.dirs) ++ fL gs i g t t.fields else []
def kDefs (i : Nat) : List Def → List KeyO
  | [] => []
  | t :: r => kDef i t ++ kDefs i r
def jDefs (i : Nat) : List Def → List Jn
  | [] => []
  | t :: r => jDef i t ++ jDefs i r
def bDefs (gs : List Graph) (i : Nat) (g : Graph) : List Def → List Fault
  | [] => []
  | t :: r => bDef gs i g t ++ bDefs gs i g r
def kAll : Nat → List Graph → List KeyO
  | _, [] => []
  | i, g :: r => kDefs i g.doc ++ kAll (i + 1) r
def jAll : Nat → List Graph → List Jn
  | _, [] => []
  | i, g :: r => jDefs i g.doc ++ jAll (i + 1) r
def bAll (gs : List Graph) : Nat → List Graph → List Fault
  | _, [] => []
  | i, g :: r => bDefs gs i g g.doc ++ bAll gs (i + 1) r
structure JoinsB (gs : List Graph) : Prop where
  l : gs.length ≤ 140737488355328
  g : ∀ g, g ∈ gs → GK g.doc
  n : ∀ g, g ∈ gs → g.name.length ≤ 140737488355328
  k : (kAll 0 gs).length ≤ 549755813888
  j : (jAll 0 gs).length ≤ 549755813888
  b : (bAll gs 0 gs).length ≤ 549755813888

theorem joins_ok (H : Pr25 P) (gs : List Graph) (hB : JoinsB gs) : FnOk P 7 [.t (.lst (gs.map Graph.enc))] ⟨[], 0⟩
    { v := .tup [.t (.lst ((if bAll gs 0 gs = [] then kAll 0 gs else []).map KeyO.enc)), .t (.lst ((if bAll gs 0 gs = [] then jAll 0 gs else []).map Jn.enc)), .t (.lst ((bAll gs 0 gs).map Fault.enc))] } := by
  have hl := hB.l
  have hk := hB.k
  have hj := hB.j
  have hb := hB.b
  generalize hK : kAll 0 gs = K at hk ⊢
  generalize hJ : jAll 0 gs = J at hj ⊢
  generalize hF : bAll gs 0 gs = F at hb ⊢
  refine FnOk.run H.i7 H.mixed rfl rfl ?_
  refine fR rfl ?_
  refine lM rfl rfl rfl ?_
  refine fM rfl ?_
  refine rList gs (fun i (A : Acc) => { env := [(5, .own 1 3 (A.k.map KeyO.enc)), (6, .own 2 6 (A.j.map Jn.enc)), (7, .ptr 0 0), (19, .t (.lst (gs.map Graph.enc))), (20, .t (.int .i64 gs.length)), (21, .t (.int .i64 i))], s := ⟨[(0, .cells [.t (.lst (gs.map Graph.enc)), .own 3 2 (List.map Fault.enc (A.b))]), (1, .arr A.k.length), (2, .arr A.j.length), (3, .arr A.b.length)], 4⟩ }) (fun r i A => (A.k ++ kAll i r = K ∧ A.j ++ jAll i r = J) ∧ A.b ++ bAll gs i r = F) 1 ⟨[], [], []⟩ rfl ⟨⟨hK, hJ⟩, hF⟩ rfl rfl rfl ?_ ?_ (he := (by repeat' (first | exact trivial | exact LeX.t | exact LeX.top | exact LeX.nilOwn (Nat.le_of_ble_eq_true rfl) (Nat.le_of_ble_eq_true rfl) | exact LeX.ownT | exact LeX.nilT | exact LeX.same rfl | exact LeX.tEq (by simp) | exact LeX.ownEq (by simp) (Nat.le_of_ble_eq_true rfl) | exact LeX.tEq (by congr 1 <;> omega) | exact Or.inr ⟨Nat.le_of_ble_eq_true rfl, Nat.le_of_ble_eq_true rfl, rfl⟩ | refine Or.inl ⟨Nat.le_of_ble_eq_true rfl, _, rfl, ?_⟩ | refine LeO.cells ?_ | exact LeO.arr rfl | exact LeO.arr (by simp) | exact LeO.mE (by first | rfl | simp) (by first | exact Or.inl rfl | exact Or.inr rfl) | exact LeO.cE (by first | rfl | simp) | exact LeXs.cE (by first | rfl | simp) | refine LeO.map (by first | rfl | simp) ?_ (by first | exact Or.inl rfl | exact Or.inr rfl) | exact LeO.iter (by first | rfl | simp) (Nat.le_of_ble_eq_true rfl) | refine LeXs.cons ?_ ?_ | exact LeXs.nil | refine And.intro ?_ ?_))) (hs := (by repeat' (first | exact trivial | exact LeX.t | exact LeX.top | exact LeX.nilOwn (Nat.le_of_ble_eq_true rfl) (Nat.le_of_ble_eq_true rfl) | exact LeX.ownT | exact LeX.nilT | exact LeX.same rfl | exact LeX.tEq (by simp) | exact LeX.ownEq (by simp) (Nat.le_of_ble_eq_true rfl) | exact LeX.tEq (by congr 1 <;> omega) | exact Or.inr ⟨Nat.le_of_ble_eq_true rfl, Nat.le_of_ble_eq_true rfl, rfl⟩ | refine Or.inl ⟨Nat.le_of_ble_eq_true rfl, _, rfl, ?_⟩ | refine LeO.cells ?_ | exact LeO.arr rfl | exact LeO.arr (by simp) | exact LeO.mE (by first | rfl | simp) (by first | exact Or.inl rfl | exact Or.inr rfl) | exact LeO.cE (by first | rfl | simp) | exact LeXs.cE (by first | rfl | simp) | refine LeO.map (by first | rfl | simp) ?_ (by first | exact Or.inl rfl | exact Or.inr rfl) | exact LeO.iter (by first | rfl | simp) (Nat.le_of_ble_eq_true rfl) | refine LeXs.cons ?_ ?_ | exact LeXs.nil | refine And.intro ?_ ?_)))
  · rintro ⟨k, j, b⟩ ⟨⟨h1, h2⟩, h3⟩
    obtain rfl : k = K := by rw [← h1]; simp [kAll]
    obtain rfl : j = J := by rw [← h2]; simp [jAll]
    obtain rfl : b = F := by rw [← h3]; simp [bAll]
    dsimp only
    refine fR rfl ?_
    refine Run.condF rfl rfl (by simp) ?_
    refine fR rfl ?_
    refine lM rfl rfl rfl ?_
    refine fM rfl ?_
    refine Run.cond rfl rfl (fun hc => ?_) (fun hc => ?_)
    · have hc' : ¬ b = [] := by intro e; rw [e] at hc; simp at hc
      rw [if_neg hc', if_neg hc']
      refine fR rfl ?_
      refine Run.fin rfl (EndOk.go ?_); exact .tup3 (.nil rfl) (.nil rfl) (.own rfl)
    · have hc' : b = [] := by
        have : b.length = 0 := by simp at hc; simp [hc]
        exact List.length_eq_zero_iff.1 this
      subst hc'
      rw [if_pos rfl, if_pos rfl]
      refine fR rfl ?_
      refine Run.fin rfl (EndOk.go ?_); exact .tup3 (.own rfl) (.own rfl) (.nil rfl)
  · rintro i g r A h1 hi hd ⟨⟨e1, e2⟩, e3⟩ ih
    have hg := hB.g g (List.mem_of_getElem? h1)
    have hgl := hg.l
    have hlk := congrArg List.length e1
    have hlj := congrArg List.length e2
    have hlb := congrArg List.length e3
    simp only [List.length_append] at hlk hlj hlb
    refine fR rfl ?_
    refine Run.condT rfl rfl (by simp; omega) ?_
    refine fR rfl ?_
    refine Mid.elemMap rfl rfl rfl h1 rfl rfl ?_
    refine fM rfl ?_
    refine lM rfl rfl rfl ?_
    refine fM rfl ?_
    refine rList g.doc (fun m (A : Acc) => { env := [(5, .own 1 3 (A.k.map KeyO.enc)), (6, .own 2 6 (A.j.map Jn.enc)), (7, .ptr 0 0), (8, .t (.int .i64 i)), (9, .ptr 4 0), (19, .t (.lst (gs.map Graph.enc))), (20, .t (.int .i64 gs.length)), (21, .t (.int .i64 i)), (28, .t (.lst (g.doc.map Def.enc))), (29, .t (.int .i64 g.doc.length)), (30, .t (.int .i64 m))], s := ⟨[(0, .cells [.t (.lst (gs.map Graph.enc)), .own 3 2 (List.map Fault.enc (A.b))]), (1, .arr A.k.length), (2, .arr A.j.length), (3, .arr A.b.length), (4, (.cells [.t (.str g.name), .t (.lst (g.doc.map Def.enc))]))], 5⟩ }) (fun r1 m A => (A.k ++ (kDefs i r1 ++ kAll (i + 1) r) = K ∧ A.j ++ (jDefs i r1 ++ jAll (i + 1) r) = J) ∧ A.b ++ (bDefs gs i g r1 ++ bAll gs (i + 1) r) = F) 5 A rfl ⟨⟨e1, e2⟩, e3⟩ rfl rfl rfl ?_ ?_
    · rintro A ⟨⟨e1, e2⟩, e3⟩
      refine fR rfl ?_
      refine Run.condF rfl rfl (by simp) ?_
      refine fR rfl ?_
      refine aL rfl rfl rfl rfl rfl ?_
      refine fM rfl ?_
      exact rWeak 4 rfl (ih A ⟨⟨by rw [← e1]; simp [kDefs], by rw [← e2]; simp [jDefs]⟩, by rw [← e3]; simp [bDefs]⟩) rfl rfl rfl
    · rintro m t r1 A h2 hm hmd ⟨⟨e1, e2⟩, e3⟩ ih1
      have ht := hg.t t (List.mem_of_getElem? h2)
      have htl := ht.fl
      have hdl := ht.d.l
      have hkl := keysD_len t.dirs
      have hlk := congrArg List.length e1
      have hlj := congrArg List.length e2
      have hlb := congrArg List.length e3
      simp only [kDefs, jDefs, bDefs] at e1 e2 e3 hlk hlj hlb
      simp only [List.length_append] at hlk hlj hlb
      refine fR rfl ?_
      refine Run.condT rfl rfl (by simp; omega) ?_
      refine fR rfl ?_
      refine Mid.elemMap rfl rfl rfl h2 rfl rfl ?_
      refine fM rfl ?_
      by_cases hk1 : t.kind = 1
      · rw [kDef, if_pos hk1] at e1 hlk
        rw [jDef, if_pos hk1] at e2 hlj
        rw [bDef, if_pos hk1] at e3 hlb
        simp only [List.length_append] at hlb
        refine Run.condF rfl rfl (by simp [hk1]) ?_
        refine fR rfl ?_
        refine Mid.callR [0, 3] (keys_ok H gs g hg (hB.n g (List.mem_of_getElem? h1)) t ht A.b (by omega)) rfl rfl rfl rfl (by simp [stoBd]; simp [AObj.bd, V.bds, V.bd]) (by repeat' (first | exact trivial | exact rfl | refine And.intro ?_ ?_ | exact (congrArg some (AObj.ren_mE _ _ _ _ _ _)).symm | exact (congrArg some (AObj.ren_cE _ _ _)).symm)) rfl rfl (ob' := [(0, .cells [.t (.lst (gs.map Graph.enc)), .own 3 2 (List.map Fault.enc (A.b ++ keyL g t 0 (keysD t.dirs)))]), (3, .arr (A.b ++ keyL g t 0 (keysD t.dirs)).length)]) (rfl) rfl rfl ?_
        refine fM rfl ?_
        generalize keyL g t 0 (keysD t.dirs) = N1 at e3 hlb
        refine Mid.call (keysOf_ok H t ht.d) rfl rfl rfl rfl ?_
        refine lM rfl rfl rfl ?_
        refine fM rfl ?_
        generalize keysD t.dirs = KS at hkl e1 hlk
        refine rList KS (fun q (C : List KeyO) => { env := [(5, .own 1 3 (C.map KeyO.enc)), (6, .own 2 6 (A.j.map Jn.enc)), (7, .ptr 0 0), (8, .t (.int .i64 i)), (9, .ptr 4 0), (11, .ptr 5 0), (19, .t (.lst (gs.map Graph.enc))), (20, .t (.int .i64 gs.length)), (21, .t (.int .i64 i)), (28, .t (.lst (g.doc.map Def.enc))), (29, .t (.int .i64 g.doc.length)), (30, .t (.int .i64 m)), (42, .t (.lst (KS.map lE))), (43, .t (.int .i64 KS.length)), (44, .t (.int .i64 q))], s := ⟨[(0, .cells [.t (.lst (gs.map Graph.enc)), .own 3 2 (List.map Fault.enc (A.b ++ N1))]), (1, .arr C.length), (2, .arr A.j.length), (3, .arr (A.b ++ N1).length), (4, (.cells [.t (.str g.name), .t (.lst (g.doc.map Def.enc))])), (5, (.cells [.t (.int .i64 t.kind), .t (.str t.name), .t (.lst (t.implements.map sE)), .t (.lst (t.dirs.map Dir.enc)), .t (.lst (t.fields.map Field.enc)), .t (.lst (t.members.map Member.enc)), .t (.lst (t.inputs.map Input.enc))]))], 6⟩ }) (fun r2 q C => C ++ (r2.map (keyOf i t) ++ (kDefs i r1 ++ kAll (i + 1) r)) = K) 6 A.k rfl (by rw [← e1]; simp) rfl rfl rfl ?_ ?_
        · rintro C hC
          refine fR rfl ?_
          refine Run.condF rfl rfl (by simp) ?_
          refine fR rfl ?_
          refine lM rfl rfl rfl ?_
          refine fM rfl ?_
          refine rList t.fields (fun q (B : List Jn × List Fault) => { env := [(5, .own 1 3 (C.map KeyO.enc)), (6, .own 2 6 (B.1.map Jn.enc)), (7, .ptr 0 0), (8, .t (.int .i64 i)), (9, .ptr 4 0), (11, .ptr 5 0), (19, .t (.lst (gs.map Graph.enc))), (20, .t (.int .i64 gs.length)), (21, .t (.int .i64 i)), (28, .t (.lst (g.doc.map Def.enc))), (29, .t (.int .i64 g.doc.length)), (30, .t (.int .i64 m)), (58, .t (.lst (t.fields.map Field.enc))), (59, .t (.int .i64 t.fields.length)), (60, .t (.int .i64 q))], s := ⟨[(0, .cells [.t (.lst (gs.map Graph.enc)), .own 3 2 (List.map Fault.enc (B.2))]), (1, .arr C.length), (2, .arr B.1.length), (3, .arr B.2.length), (4, (.cells [.t (.str g.name), .t (.lst (g.doc.map Def.enc))])), (5, (.cells [.t (.int .i64 t.kind), .t (.str t.name), .t (.lst (t.implements.map sE)), .t (.lst (t.dirs.map Dir.enc)), .t (.lst (t.fields.map Field.enc)), .t (.lst (t.members.map Member.enc)), .t (.lst (t.inputs.map Input.enc))]))], 6⟩ }) (fun r2 q B => B.1 ++ (r2.map (jnOf i t) ++ (jDefs i r1 ++ jAll (i + 1) r)) = J ∧ B.2 ++ (fL gs i g t r2 ++ (bDefs gs i g r1 ++ bAll gs (i + 1) r)) = F) 6 (A.j, A.b ++ N1) rfl ⟨by rw [← e2]; simp, by rw [← e3]; simp⟩ rfl rfl rfl ?_ ?_
          · rintro ⟨B1, B2⟩ ⟨g1, g2⟩
            dsimp only at g1 g2 ⊢
            refine fR rfl ?_
            refine Run.condF rfl rfl (by simp) ?_
            refine fR rfl ?_
            refine aL rfl rfl rfl rfl rfl ?_
            refine fM rfl ?_
            exact rWeak 5 rfl (ih1 ⟨C, B1, B2⟩ ⟨⟨by rw [← hC]; simp, by rw [← g1]; simp⟩, by rw [← g2]; simp [fL]⟩) rfl rfl rfl
          · rintro q x r2 ⟨B1, B2⟩ h3 hq hqd ⟨g1, g2⟩ ih2
            dsimp only at g1 g2 ih2 ⊢
            have hx := ht.f x (List.mem_of_getElem? h3)
            have hl1 := congrArg List.length g1
            have hl2 := congrArg List.length g2
            simp only [fL, List.length_append, List.length_map, List.length_cons] at hl1 hl2
            refine fR rfl ?_
            refine Run.condT rfl rfl (by simp; omega) ?_
            refine fR rfl ?_
            refine Mid.elemMap rfl rfl rfl h3 rfl rfl ?_
            refine fM rfl ?_
            refine Mid.callR [0, 3] (field_ok H gs hl hB.g hB.n i g h1 t ht x hx B2 (by omega)) rfl rfl rfl rfl (by simp [stoBd]; simp [AObj.bd, V.bds, V.bd]) (by repeat' (first | exact trivial | exact rfl | refine And.intro ?_ ?_ | exact (congrArg some (AObj.ren_mE _ _ _ _ _ _)).symm | exact (congrArg some (AObj.ren_cE _ _ _)).symm)) rfl rfl (ob' := [(0, .cells [.t (.lst (gs.map Graph.enc)), .own 3 2 (List.map Fault.enc (B2 ++ fieldF gs i g t x))]), (3, .arr (B2 ++ fieldF gs i g t x).length)]) (rfl) rfl rfl ?_
            refine fM rfl ?_
            refine Mid.call (hasD_ok H.toPr23 21 x.dirs hx.d.len ([101, 120, 116, 101, 114, 110, 97, 108] : Str) (.inl rfl)) rfl rfl rfl rfl ?_
            refine fM rfl ?_
            refine Mid.call (set_ok H x.dirs hx.d ([114, 101, 113, 117, 105, 114, 101, 115] : Str)) rfl rfl rfl rfl ?_
            refine fM rfl ?_
            refine Mid.call (set_ok H x.dirs hx.d ([112, 114, 111, 118, 105, 100, 101, 115] : Str)) rfl rfl rfl rfl ?_
            refine fM rfl ?_
            refine apM Jn.enc B1 [jnOf i t x] rfl rfl rfl rfl rfl ?_ (h1 := by first | omega | (simp; omega) | (simp; done)) (h2 := by first | omega | (simp; omega) | (simp; done))
            refine fM rfl ?_
            refine aL rfl rfl rfl rfl rfl ?_
            refine fM rfl ?_
            exact rWeak 6 rfl (ih2 (B1 ++ [jnOf i t x], B2 ++ fieldF gs i g t x) ⟨by rw [← g1]; simp, by rw [← g2]; simp [fL]⟩) rfl rfl rfl
        · rintro q ks r2 C h3 hq hqd hC ih2
          have hlC := congrArg List.length hC
          simp only [List.length_append, List.length_map, List.length_cons] at hlC
          refine fR rfl ?_
          refine Run.condT rfl rfl (by simp; omega) ?_
          refine fR rfl ?_
          refine Mid.elemMap rfl rfl rfl h3 rfl rfl ?_
          refine fM rfl ?_
          refine apM KeyO.enc C [keyOf i t ks] rfl rfl rfl rfl rfl ?_ (h1 := by first | omega | (simp; omega) | (simp; done)) (h2 := by first | omega | (simp; omega) | (simp; done))
          refine fM rfl ?_
          refine aL rfl rfl rfl rfl rfl ?_
          refine fM rfl ?_
          exact rWeak 6 rfl (ih2 (C ++ [keyOf i t ks]) (by rw [← hC]; simp)) rfl rfl rfl
      · rw [kDef, if_neg hk1, List.nil_append] at e1
        rw [jDef, if_neg hk1, List.nil_append] at e2
        rw [bDef, if_neg hk1, List.nil_append] at e3
        refine Run.condT rfl rfl (by simp [hk1]) ?_
        refine fR rfl ?_
        refine aL rfl rfl rfl rfl rfl ?_
        refine fM rfl ?_
        exact rWeak 5 rfl (ih1 A ⟨⟨e1, e2⟩, e3⟩) rfl rfl rfl
end Go.GB.C23


/-
  F25G: moves: joins, keys and requirements of supergraphs.
-/
namespace Go.GB.C23
open Go.GB Go.GB.C11
set_option linter.unusedSimpArgs false
set_option linter.unusedVariables false
set_option maxRecDepth 100000
set_option maxHeartbeats 4000000
variable {P : Program}

theorem clone25_ok (H : Pr25 P) (l : List Str) (hl : l.length * 16 ≤ 140737488355328) : FnOk P 37 [.t (.lst (l.map sE))] ⟨[], 0⟩ { v := .t (.lst (l.map sE)) } := by
  refine FnOk.run H.i37 H.mixed rfl rfl ?_
  refine fR rfl ?_
  refine p0 rfl ?_
  refine fM rfl ?_
  refine Run.condU rfl rfl (fun h => ?_) (fun _ => ?_)
  · have hn : l = [] := by
      cases l with
      | nil => rfl
      | cons x r =>
        have := h (sE x) (by simp)
        simp [sE] at this
    subst hn
    refine fR rfl ?_
    refine Run.fin rfl (EndOk.go ?_); exact .nil rfl
  · refine fR rfl ?_
    refine apN sE l rfl rfl rfl ?_ (h1 := hl) (h2 := by omega)
    refine fM rfl ?_
    refine Run.fin rfl (EndOk.go ?_); exact .own rfl
theorem texts_ok (H : Pr25 P) (a b : List Str) (ha : a.length ≤ 140737488355328) (hb : b.length ≤ 140737488355328) : FnOk P 27 [.t (.lst (a.map sE)), .t (.lst (b.map sE))] ⟨[], 0⟩ { v := .t (.bool (decide (a = b))) } := by
  refine FnOk.run H.i27 H.mixed rfl rfl ?_
  refine fR rfl ?_
  refine lM rfl rfl rfl ?_
  refine fM rfl ?_
  refine lM rfl rfl rfl ?_
  refine fM rfl ?_
  refine Run.cond rfl rfl (fun h => ?_) (fun h => ?_)
  · have h' : ¬ a.length = b.length := by simp at h; omega
    refine fR rfl ?_
    refine Run.fin rfl (EndOk.go ?_); exact .t (by simp; intro e; exact h' (by rw [e]))
  · have h' : a.length = b.length := by simp at h; omega
    refine fR rfl ?_
    refine rList a (fun i (_ : Unit) => { env := [(0, .t (.lst (a.map sE))), (1, .t (.lst (b.map sE))), (5, .t (.int .i64 i))], s := ⟨[], 0⟩ }) (fun r i _ => decide (a = b) = decide (r = b.drop i)) 0 () rfl (by simp) rfl rfl rfl ?_ ?_
    · intro _ hinv
      refine fR rfl ?_
      refine lM rfl rfl rfl ?_
      refine fM rfl ?_
      refine Run.condF rfl rfl (by simp) ?_
      refine fR rfl ?_
      refine Run.fin rfl (EndOk.go ?_); exact .t (by rw [hinv, h']; simp)
    · intro i x r _ h1 hi hd hinv ih
      obtain ⟨y, hy⟩ := at_of_len h' hi
      have hinv' : decide (a = b) = decide (x :: r = b.drop i) := hinv
      rw [Go.GB.C11.drop_at hy] at hinv'
      refine fR rfl ?_
      refine lM rfl rfl rfl ?_
      refine fM rfl ?_
      refine Run.condT rfl rfl (by simp; omega) ?_
      refine fR rfl ?_
      refine Mid.elemMap rfl rfl rfl h1 rfl rfl ?_
      refine fM rfl ?_
      refine Mid.elemMap rfl rfl rfl hy rfl rfl ?_
      refine fM rfl ?_
      refine Run.cond rfl rfl (fun hc => ?_) (fun hc => ?_)
      · have hc' : ¬ x = y := by simpa using hc
        refine fR rfl ?_
        refine Run.fin rfl (EndOk.go ?_); exact .t (by rw [hinv']; simp [hc'])
      · have hc' : x = y := by simpa using hc
        refine fR rfl ?_
        refine aL rfl rfl rfl rfl rfl ?_
        refine fM rfl ?_
        exact rWeak 0 rfl (ih () (by rw [hinv']; simp [hc'])) rfl rfl rfl
def Jn.v (j : Jn) : V := .agg [.t (.str j.ty), .t (.str j.field), .t (.int .i64 j.graph), .t (.bool j.ext), .t (.lst (j.req.map sE)), .t (.lst (j.prov.map sE))]
structure Jn.Ok (j : Jn) : Prop where
  r : j.req.length * 16 ≤ 140737488355328
  p : j.prov.length * 16 ≤ 140737488355328
def Jn.zero : Jn := ⟨[], [], 0, false, [], []⟩
theorem Jn.zero_ok : Jn.zero.Ok := ⟨by decide, by decide⟩
theorem sameJ_ok (H : Pr25 P) (j : Jn) (hj : j.Ok) : FnOk P 28 [j.v, j.v] ⟨[], 0⟩ { v := .t (.bool true) } := by
  have h1 := hj.r
  have h2 := hj.p
  refine FnOk.run H.i28 H.mixed rfl rfl ?_
  refine fR rfl ?_
  refine caG rfl rfl (fun hg => ⟨_, rfl, texts_ok H j.req j.req (by omega) (by omega), rfl⟩) rfl rfl ?_
  refine fM rfl ?_
  refine caG rfl rfl (fun hg => ⟨_, rfl, texts_ok H j.prov j.prov (by omega) (by omega), rfl⟩) rfl rfl ?_
  refine fM rfl ?_
  refine Run.fin rfl (EndOk.go ?_); exact .t (by simp)

/-- a supergraph -/
def superV (a b : T) (ks : List KeyO) (js : List Jn) : V := .agg [.t a, .t b, .t (.lst (ks.map KeyO.enc)), .t (.lst (js.map Jn.enc))]
def isJ (n f : Str) (g : Int) (j : Jn) : Bool := (j.ty == n && j.field == f) && j.graph == g
def findJ (n f : Str) (g : Int) : List Jn → Option Jn
  | [] => none
  | j :: r => if isJ n f g j = true then some j else findJ n f g r
theorem findJ_ok (H : Pr25 P) (a b : T) (ks : List KeyO) (js : List Jn) (hl : js.length ≤ 140737488355328) (hj : ∀ j, j ∈ js → j.Ok) (n f : Str) (g : Int) : FnOk P 16 [superV a b ks js, .t (.str n), .t (.str f), .t (.int .i64 g)] ⟨[], 0⟩ { v := .tup [((findJ n f g js).getD Jn.zero).v, .t (.bool (findJ n f g js).isSome)] } := by
  refine FnOk.run H.i16 H.mixed rfl rfl ?_
  refine fR rfl ?_
  refine lM rfl rfl rfl ?_
  refine fM rfl ?_
  refine rList js (fun i (_ : Unit) => { env := [(1, .t (.str n)), (2, .t (.str f)), (3, .t (.int .i64 g)), (8, .ptr 1 0), (13, .t (.lst (js.map Jn.enc))), (14, .t (.int .i64 js.length)), (15, .t (.int .i64 i))], s := ⟨[(1, (.cells [.t (.str []), .t (.str []), .t (.int .i64 0), .t (.bool false), .nils, .nils]))], 2⟩ }) (fun r i _ => findJ n f g js = findJ n f g r) 2 () rfl rfl rfl rfl rfl ?_ ?_
  · intro _ hinv
    refine fR rfl ?_
    refine Run.condF rfl rfl (by simp) ?_
    refine fR rfl ?_
    have e : findJ n f g js = none := by rw [hinv]; rfl
    rw [e]
    refine Run.fin rfl (EndOk.go ?_); exact .tup2 (.agg (.cons (.t rfl) (.cons (.t rfl) (.cons (.t rfl) (.cons (.t rfl) (.cons (.nil rfl) (.cons (.nil rfl) .nil))))))) (.t rfl)
  · intro i x r _ h1 hi hd hinv ih
    have hx := hj x (List.mem_of_getElem? h1)
    refine fR rfl ?_
    refine Run.condT rfl rfl (by simp; omega) ?_
    refine fR rfl ?_
    refine Mid.elemMap rfl rfl rfl h1 rfl rfl ?_
    refine fM rfl ?_
    refine Run.cond rfl rfl (fun h => ?_) (fun h => ?_)
    · have h' : isJ n f g x = true := h
      have e : findJ n f g js = some x := by rw [hinv, findJ, if_pos h']
      rw [e]
      refine fR rfl ?_
      refine Mid.call (clone25_ok H x.req hx.r) rfl rfl rfl rfl ?_
      refine fM rfl ?_
      refine Mid.call (clone25_ok H x.prov hx.p) rfl rfl rfl rfl ?_
      refine fM rfl ?_
      refine Run.fin rfl (EndOk.go ?_); exact .tup2 (.le (.same rfl)) (.t rfl)
    · have h' : ¬ isJ n f g x = true := by unfold isJ; rw [h]; simp
      refine fR rfl ?_
      refine aL rfl rfl rfl rfl rfl ?_
      refine fM rfl ?_
      exact rWeak 2 rfl (ih () (by rw [hinv, findJ, if_neg h'])) rfl rfl rfl
def isK (n : Str) (g : Int) (k : KeyO) : Bool := k.ty == n && k.graph == g
def keysS (n : Str) (g : Int) : List KeyO → List (List Str)
  | [] => []
  | k :: r => (if isK n g k = true then [k.fields] else []) ++ keysS n g r
theorem keysJ_ok (H : Pr25 P) (a b : T) (ks : List KeyO) (js : List Jn) (hl : ks.length ≤ 1000) (hk : ∀ k, k ∈ ks → k.fields.length * 16 ≤ 140737488355328) (n : Str) (g : Int) : FnOk P 17 [superV a b ks js, .t (.str n), .t (.int .i64 g)] ⟨[], 0⟩ { v := .t (.lst ((keysS n g ks).map lE)) } := by
  have hR : ∀ R, keysS n g ks = R → FnOk P 17 [superV a b ks js, .t (.str n), .t (.int .i64 g)] ⟨[], 0⟩ { v := .t (.lst (R.map lE)) } := by
    intro R hR
    refine FnOk.run H.i17 H.mixed rfl rfl ?_
    refine fR rfl ?_
    refine lM rfl rfl rfl ?_
    refine fM rfl ?_
    refine rList ks (fun i (B : List (List Str)) => { env := [(1, .t (.str n)), (2, .t (.int .i64 g)), (7, .own 1 1 (B.map lE)), (11, .t (.lst (ks.map KeyO.enc))), (12, .t (.int .i64 ks.length)), (13, .t (.int .i64 i))], s := ⟨[(1, .arr B.length)], 2⟩ }) (fun r i B => B.length ≤ i ∧ B ++ keysS n g r = R) 1 [] rfl ⟨by simp, hR⟩ rfl rfl rfl ?_ ?_
    · rintro B ⟨_, hB⟩
      obtain rfl : B = R := by rw [← hB]; simp [keysS]
      refine fR rfl ?_
      refine Run.condF rfl rfl (by simp) ?_
      refine fR rfl ?_
      refine Run.fin rfl (EndOk.go ?_); exact .own rfl
    · rintro i x r B h1 hi hd ⟨hBl, hB⟩ ih
      have hBl' : B.length ≤ i := hBl
      have hx := hk x (List.mem_of_getElem? h1)
      have hB2 : B ++ ((if isK n g x = true then [x.fields] else []) ++ keysS n g r) = R := hB
      refine fR rfl ?_
      refine Run.condT rfl rfl (by simp; omega) ?_
      refine fR rfl ?_
      refine Mid.elemMap rfl rfl rfl h1 rfl rfl ?_
      refine fM rfl ?_
      refine Run.cond rfl rfl (fun h => ?_) (fun h => ?_)
      · have h' : isK n g x = true := h
        rw [if_pos h'] at hB2
        refine fR rfl ?_
        refine Mid.call (clone25_ok H x.fields hx) rfl rfl rfl rfl ?_
        refine fM rfl ?_
        refine apM lE B [x.fields] rfl rfl rfl rfl rfl ?_ (h1 := by first | omega | (simp; omega) | (simp; done)) (h2 := by first | omega | (simp; omega) | (simp; done))
        refine fM rfl ?_
        refine aL rfl rfl rfl rfl rfl ?_
        refine fM rfl ?_
        exact rWeak 2 rfl (ih (B ++ [x.fields]) ⟨by simp; omega, by rw [← hB2]; simp⟩) rfl rfl rfl
      · have h' : ¬ isK n g x = true := by unfold isK; rw [h]; simp
        rw [if_neg h', List.nil_append] at hB2
        refine fR rfl ?_
        refine aL rfl rfl rfl rfl rfl ?_
        refine fM rfl ?_
        exact rWeak 2 rfl (ih B ⟨by omega, hB2⟩) rfl rfl rfl
  exact hR _ rfl
end Go.GB.C23


/-
  F25H: moves: the examples; the law of what is found.
-/
namespace Go.GB.C23
open Go.GB Go.GB.C11
set_option linter.unusedSimpArgs false
set_option linter.unusedVariables false
set_option maxRecDepth 100000
set_option maxHeartbeats 4000000
variable {P : Program}

def nUser : Str := [85, 115, 101, 114]
def keyDir : Dir := ⟨[107, 101, 121], [⟨[102, 105, 101, 108, 100, 115], .mk 3 0 [105, 100] [] []⟩]⟩
def idField : Field := ⟨[105, 100], [], ⟨[73, 68], [1]⟩, []⟩
def userD (fl : Str) : Def := ⟨1, nUser, [], [keyDir], [idField, ⟨fl, [], ⟨[83, 116, 114, 105, 110, 103], []⟩, []⟩], [], []⟩
def userG (nm fl : Str) : Graph := ⟨nm, [userD fl]⟩
theorem user_ok (H : Pr25 P) (nm fl : Str) : FnOk P 15 [.t (.str nm), .t (.str fl)] ⟨[], 0⟩ { v := (userG nm fl).v } := by
  refine FnOk.run H.i15 H.mixed rfl rfl ?_
  refine fR rfl ?_
  refine Run.fin rfl (EndOk.go ?_); exact .agg (.cons (.t rfl) (.cons (.own rfl) .nil))

theorem keyDir_ok : DOk keyDir := by
  refine ⟨by decide, by decide, fun a ha => ?_⟩
  simp [keyDir] at ha; subst ha
  exact ⟨by decide, .mk (by decide) (by decide) (by simp) (by decide) (by simp), by decide⟩
theorem userD_ok (fl : Str) (hf : fl.length ≤ 1000) : GK [userD fl] := by
  refine ⟨⟨(Nat.le_of_ble_eq_true rfl), ?_, (Nat.le_of_ble_eq_true rfl)⟩, (Nat.le_of_ble_eq_true rfl), ?_⟩
  · intro t ht
    simp at ht; subst ht
    refine ⟨(Nat.le_of_ble_eq_true rfl), (Nat.le_of_ble_eq_true rfl), ?_, by simp [userD], ?_, (Nat.le_of_ble_eq_true rfl), by simp [userD], (Nat.le_of_ble_eq_true rfl), by simp [userD], (Nat.le_of_ble_eq_true rfl), by simp [userD]⟩
    · intro d hd
      simp [userD] at hd; subst hd
      refine ⟨(Nat.le_of_ble_eq_true rfl), fun a ha => ?_, (Nat.le_of_ble_eq_true rfl)⟩
      simp [keyDir] at ha; subst ha
      exact .mk ((Nat.le_of_ble_eq_true rfl)) ((Nat.le_of_ble_eq_true rfl)) (by simp) ((Nat.le_of_ble_eq_true rfl)) (by simp)
    · intro x hx
      simp [userD] at hx
      rcases hx with rfl | rfl
      · exact ⟨(Nat.le_of_ble_eq_true rfl), by simp [idField], ⟨(Nat.le_of_ble_eq_true rfl), (Nat.le_of_ble_eq_true rfl)⟩, (Nat.le_of_ble_eq_true rfl), by simp [idField], (Nat.le_of_ble_eq_true rfl)⟩
      · exact ⟨(Nat.le_of_ble_eq_true rfl), by simp, ⟨(Nat.le_of_ble_eq_true rfl), (Nat.le_of_ble_eq_true rfl)⟩, (Nat.le_of_ble_eq_true rfl), by simp, by show fl.length ≤ _; omega⟩
  · intro t ht
    simp at ht; subst ht
    refine ⟨⟨(Nat.le_of_ble_eq_true rfl), fun d hd => ?_⟩, by simp [userD], fun x hx => ?_, (Nat.le_of_ble_eq_true rfl)⟩
    · simp [userD] at hd; subst hd; exact keyDir_ok
    · simp [userD] at hx
      rcases hx with rfl | rfl
      · exact ⟨DK.nil, (Nat.le_of_ble_eq_true rfl), (Nat.le_of_ble_eq_true rfl), (Nat.le_of_ble_eq_true rfl)⟩
      · exact ⟨DK.nil, (Nat.le_of_ble_eq_true rfl), (Nat.le_of_ble_eq_true rfl), by show fl.length ≤ _; omega⟩

def nName : Str := [110, 97, 109, 101]
def nPosts : Str := [112, 111, 115, 116, 115]
def g1 : List Graph := [userG [97] nName, userG [98] nPosts]
def g2 : List Graph := [userG [97] nName, userG [98] nName]
def k1 : List KeyO := [⟨nUser, 0, [[105, 100]]⟩, ⟨nUser, 1, [[105, 100]]⟩]
def j1 : List Jn := [⟨nUser, [105, 100], 0, false, [], []⟩, ⟨nUser, nName, 0, false, [], []⟩, ⟨nUser, [105, 100], 1, false, [], []⟩, ⟨nUser, nPosts, 1, false, [], []⟩]
def b2 : List Fault := [⟨40, [97, 58, 85, 115, 101, 114, 46, 110, 97, 109, 101]⟩, ⟨40, [98, 58, 85, 115, 101, 114, 46, 110, 97, 109, 101]⟩]
theorem g1_k : kAll 0 g1 = k1 := by kernel_rfl
theorem g1_j : jAll 0 g1 = j1 := by kernel_rfl
theorem g1_b : bAll g1 0 g1 = [] := by kernel_rfl
theorem g2_b : bAll g2 0 g2 = b2 := by kernel_rfl
theorem g2_k : (kAll 0 g2).length = 2 := by kernel_rfl
theorem g2_j : (jAll 0 g2).length = 4 := by kernel_rfl
theorem gs_ok {n1 n2 f1 f2 : Str} (h1 : f1.length ≤ 1000) (h2 : f2.length ≤ 1000) : ∀ g, g ∈ [userG n1 f1, userG n2 f2] → GK g.doc := by
  intro g hg
  simp at hg
  rcases hg with rfl | rfl
  · exact userD_ok _ h1
  · exact userD_ok _ h2
theorem g1_ok : JoinsB g1 := ⟨by decide, gs_ok (by decide) (by decide), by decide, by rw [g1_k]; decide, by rw [g1_j]; decide, by rw [g1_b]; decide⟩
theorem g2_ok : JoinsB g2 := ⟨by decide, gs_ok (by decide) (by decide), by decide, by rw [g2_k]; decide, by rw [g2_j]; decide, by rw [g2_b]; decide⟩
theorem j1_ok : ∀ j, j ∈ j1 → j.Ok := by
  intro j hj
  simp [j1] at hj
  rcases hj with rfl | rfl | rfl | rfl <;> exact ⟨by decide, by decide⟩
theorem ex32_ok (H : Pr25 P) : FnOk P 6 [] ⟨[], 0⟩ { v := .t (.bool true) } := by
  have h1 := joins_ok H g1 g1_ok
  rw [g1_b, if_pos rfl, if_pos rfl, g1_k, g1_j] at h1
  have h2 := joins_ok H g2 g2_ok
  rw [g2_b, if_neg (by decide), if_neg (by decide)] at h2
  have h3 := findJ_ok H (.lst []) (.lst []) k1 j1 (by decide) j1_ok nUser nName 0
  have h4 := findJ_ok H (.lst []) (.lst []) k1 j1 (by decide) j1_ok nUser nName 1
  have h5 := keysJ_ok H (.lst []) (.lst []) k1 j1 (by decide) (by intro k hk; simp [k1] at hk; rcases hk with rfl | rfl <;> decide) nUser 1
  rw [show keysS nUser 1 k1 = [[[105, 100]]] by kernel_rfl] at h5
  rw [show (findJ nUser nName 0 j1).getD Jn.zero = ⟨nUser, nName, 0, false, [], []⟩ by kernel_rfl, show (findJ nUser nName 0 j1).isSome = true by kernel_rfl] at h3
  rw [show (findJ nUser nName 1 j1).getD Jn.zero = Jn.zero by kernel_rfl, show (findJ nUser nName 1 j1).isSome = false by kernel_rfl] at h4
  refine FnOk.run H.i6 H.mixed rfl rfl ?_
  refine fR rfl ?_
  refine Mid.call (user_ok H [97] nName) rfl rfl rfl rfl ?_
  refine Mid.call (user_ok H [98] nPosts) rfl rfl rfl rfl ?_
  refine Mid.bslP rfl rfl rfl ?_
  skip
  refine Mid.call (h1) rfl rfl rfl rfl ?_
  refine fM rfl ?_
  refine Mid.call (user_ok H [97] nName) rfl rfl rfl rfl ?_
  refine Mid.call (user_ok H [98] nName) rfl rfl rfl rfl ?_
  refine Mid.bslP rfl rfl rfl ?_
  skip
  refine Mid.call (h2) rfl rfl rfl rfl ?_
  refine fM rfl ?_
  refine lM rfl rfl rfl ?_
  refine fM rfl ?_
  refine lMG rfl rfl rfl rfl ?_
  refine fM rfl ?_
  refine lMG rfl rfl rfl rfl ?_
  refine fM rfl ?_
  refine lMG rfl rfl rfl rfl ?_
  refine fM rfl ?_
  refine Run.condF rfl rfl (by decide) ?_
  refine Run.fast (f := 6) rfl trivial ?_
  refine Mid.done0 rfl ?_
  refine rWeakC 1 rfl (st' := { env := [(6, .t (.lst (b2.map Fault.enc))), (7, .ptr 0 0)], s := ⟨[(0, .cells [.t (.lst []), .t (.lst []), .t (.lst (k1.map KeyO.enc)), .t (.lst (j1.map Jn.enc))])], 1⟩ }) ?_ rfl rfl rfl
  refine fR rfl ?_
  refine Mid.call (h3) rfl rfl rfl rfl ?_
  refine fM rfl ?_
  refine Mid.call (h4) rfl rfl rfl rfl ?_
  refine fM rfl ?_
  refine caG rfl rfl (fun hg => ⟨_, rfl, h5, rfl⟩) rfl rfl ?_
  refine lMG rfl rfl rfl rfl ?_
  refine fM rfl ?_
  refine gr rfl ?_
  refine fM rfl ?_
  refine gr rfl ?_
  refine fM rfl ?_
  refine gr rfl ?_
  refine fM rfl ?_
  refine gr rfl ?_
  refine fM rfl ?_
  refine Run.fin rfl (EndOk.go ?_); exact .t rfl
end Go.GB.C23


/-
  D11U: contracts of chapter 11's functions: the parts of the schema's check.
-/
namespace Go.GB.C11
open Go.GB
set_option linter.unusedSimpArgs false
set_option linter.unusedVariables false
set_option maxRecDepth 100000
set_option maxHeartbeats 2000000
variable {P : Program}

theorem namesO_ok (H : Pr P) (n : Str) (hn : n.length ≤ 140737488355328) (bad twice : Bool) (at_ : Str) : FnOk P 55 [.t (.str n), .t (.bool bad), .t (.bool twice), .t (.str at_)] ⟨[], 0⟩ { v := .own 0 2 ((namesF n bad twice at_).map Fault.enc), ob := [(0, .arr (namesF n bad twice at_).length)], n := 1 } := by
  refine FnOk.run H.i55 H.mixed rfl rfl ?_
  refine fR rfl ?_
  refine caG rfl rfl (fun hg => ⟨_, rfl, allowed_ok H n hn, rfl⟩) rfl rfl ?_
  refine fM rfl ?_
  refine Run.cond rfl rfl (fun h => ?_) (fun h => ?_)
  · refine fR rfl ?_
    refine apN Fault.enc [(⟨6, at_⟩ : Fault)] rfl rfl rfl ?_ (h1 := by first | omega | (simp; omega) | (simp; done)) (h2 := by first | omega | (simp; omega) | (simp; done))
    refine fM rfl ?_
    cases twice with
    | true =>
      refine Run.condT rfl rfl rfl ?_
      refine fR rfl ?_
      refine apM Fault.enc [(⟨6, at_⟩ : Fault)] [(⟨7, at_⟩ : Fault)] rfl rfl rfl rfl rfl ?_ (h1 := by first | omega | (simp; omega) | (simp; done)) (h2 := by first | omega | (simp; omega) | (simp; done))
      refine fM rfl ?_
      have e : namesF n bad true at_ = [⟨6, at_⟩] ++ [⟨7, at_⟩] := by unfold namesF; rw [if_pos h, if_pos rfl]
      rw [e]
      refine Run.fin rfl (EndOk.chg rfl rfl ?_ ?_)
      · exact .le (.same rfl)
      · exact (by repeat' (first | exact trivial | exact LeX.t | exact LeX.top | exact LeX.nilOwn (Nat.le_of_ble_eq_true rfl) (Nat.le_of_ble_eq_true rfl) | exact LeX.ownT | exact LeX.nilT | exact LeX.same rfl | exact LeX.tEq (by simp) | exact LeX.ownEq (by simp) (Nat.le_of_ble_eq_true rfl) | exact LeX.tEq (by congr 1 <;> omega) | exact Or.inr ⟨Nat.le_of_ble_eq_true rfl, Nat.le_of_ble_eq_true rfl, rfl⟩ | refine Or.inl ⟨Nat.le_of_ble_eq_true rfl, _, rfl, ?_⟩ | refine LeO.cells ?_ | exact LeO.arr rfl | exact LeO.arr (by simp) | exact LeO.mE (by first | rfl | simp) (by first | exact Or.inl rfl | exact Or.inr rfl) | exact LeO.cE (by first | rfl | simp) | exact LeXs.cE (by first | rfl | simp) | refine LeO.map (by first | rfl | simp) ?_ (by first | exact Or.inl rfl | exact Or.inr rfl) | exact LeO.iter (by first | rfl | simp) (Nat.le_of_ble_eq_true rfl) | refine LeXs.cons ?_ ?_ | exact LeXs.nil | refine And.intro ?_ ?_))
    | false =>
      refine Run.condF rfl rfl rfl ?_
      refine fR rfl ?_
      have e : namesF n bad false at_ = [⟨6, at_⟩] := by unfold namesF; rw [if_pos h, if_neg (by simp)]; rfl
      rw [e]
      refine Run.fin rfl (EndOk.chg rfl rfl ?_ ?_)
      · exact .le (.same rfl)
      · exact (by repeat' (first | exact trivial | exact LeX.t | exact LeX.top | exact LeX.nilOwn (Nat.le_of_ble_eq_true rfl) (Nat.le_of_ble_eq_true rfl) | exact LeX.ownT | exact LeX.nilT | exact LeX.same rfl | exact LeX.tEq (by simp) | exact LeX.ownEq (by simp) (Nat.le_of_ble_eq_true rfl) | exact LeX.tEq (by congr 1 <;> omega) | exact Or.inr ⟨Nat.le_of_ble_eq_true rfl, Nat.le_of_ble_eq_true rfl, rfl⟩ | refine Or.inl ⟨Nat.le_of_ble_eq_true rfl, _, rfl, ?_⟩ | refine LeO.cells ?_ | exact LeO.arr rfl | exact LeO.arr (by simp) | exact LeO.mE (by first | rfl | simp) (by first | exact Or.inl rfl | exact Or.inr rfl) | exact LeO.cE (by first | rfl | simp) | exact LeXs.cE (by first | rfl | simp) | refine LeO.map (by first | rfl | simp) ?_ (by first | exact Or.inl rfl | exact Or.inr rfl) | exact LeO.iter (by first | rfl | simp) (Nat.le_of_ble_eq_true rfl) | refine LeXs.cons ?_ ?_ | exact LeXs.nil | refine And.intro ?_ ?_))
  · refine fR rfl ?_
    have h' : ¬ (bad || !allowedF n) = true := by rw [h]; simp
    refine rWeakC 0 rfl (st' := { env := [(3, .t (.str at_)), (9, .own 0 2 ([].map Fault.enc)), (21, .t (.bool twice))], s := ⟨[(0, .arr 0)], 1⟩ }) ?_ rfl rfl rfl
    cases twice with
    | true =>
      refine Run.condT rfl rfl rfl ?_
      refine fR rfl ?_
      refine apM Fault.enc [] [(⟨7, at_⟩ : Fault)] rfl rfl rfl rfl rfl ?_ (h1 := by first | omega | (simp; omega) | (simp; done)) (h2 := by first | omega | (simp; omega) | (simp; done))
      refine fM rfl ?_
      have e : namesF n bad true at_ = [⟨7, at_⟩] := by unfold namesF; rw [if_neg h', if_pos rfl]; rfl
      rw [e]
      refine Run.fin rfl (EndOk.chg rfl rfl ?_ ?_)
      · exact .le (.same rfl)
      · exact (by repeat' (first | exact trivial | exact LeX.t | exact LeX.top | exact LeX.nilOwn (Nat.le_of_ble_eq_true rfl) (Nat.le_of_ble_eq_true rfl) | exact LeX.ownT | exact LeX.nilT | exact LeX.same rfl | exact LeX.tEq (by simp) | exact LeX.ownEq (by simp) (Nat.le_of_ble_eq_true rfl) | exact LeX.tEq (by congr 1 <;> omega) | exact Or.inr ⟨Nat.le_of_ble_eq_true rfl, Nat.le_of_ble_eq_true rfl, rfl⟩ | refine Or.inl ⟨Nat.le_of_ble_eq_true rfl, _, rfl, ?_⟩ | refine LeO.cells ?_ | exact LeO.arr rfl | exact LeO.arr (by simp) | exact LeO.mE (by first | rfl | simp) (by first | exact Or.inl rfl | exact Or.inr rfl) | exact LeO.cE (by first | rfl | simp) | exact LeXs.cE (by first | rfl | simp) | refine LeO.map (by first | rfl | simp) ?_ (by first | exact Or.inl rfl | exact Or.inr rfl) | exact LeO.iter (by first | rfl | simp) (Nat.le_of_ble_eq_true rfl) | refine LeXs.cons ?_ ?_ | exact LeXs.nil | refine And.intro ?_ ?_))
    | false =>
      refine Run.condF rfl rfl rfl ?_
      refine fR rfl ?_
      have e : namesF n bad false at_ = [] := by unfold namesF; rw [if_neg h', if_neg (by simp)]; rfl
      rw [e]
      refine Run.fin rfl (EndOk.chg rfl rfl ?_ ?_)
      · exact .le (.same rfl)
      · exact (by repeat' (first | exact trivial | exact LeX.t | exact LeX.top | exact LeX.nilOwn (Nat.le_of_ble_eq_true rfl) (Nat.le_of_ble_eq_true rfl) | exact LeX.ownT | exact LeX.nilT | exact LeX.same rfl | exact LeX.tEq (by simp) | exact LeX.ownEq (by simp) (Nat.le_of_ble_eq_true rfl) | exact LeX.tEq (by congr 1 <;> omega) | exact Or.inr ⟨Nat.le_of_ble_eq_true rfl, Nat.le_of_ble_eq_true rfl, rfl⟩ | refine Or.inl ⟨Nat.le_of_ble_eq_true rfl, _, rfl, ?_⟩ | refine LeO.cells ?_ | exact LeO.arr rfl | exact LeO.arr (by simp) | exact LeO.mE (by first | rfl | simp) (by first | exact Or.inl rfl | exact Or.inr rfl) | exact LeO.cE (by first | rfl | simp) | exact LeXs.cE (by first | rfl | simp) | refine LeO.map (by first | rfl | simp) ?_ (by first | exact Or.inl rfl | exact Or.inr rfl) | exact LeO.iter (by first | rfl | simp) (Nat.le_of_ble_eq_true rfl) | refine LeXs.cons ?_ ?_ | exact LeXs.nil | refine And.intro ?_ ?_))
def rootS (n : Str) : Bool := n == [81, 117, 101, 114, 121] || n == [77, 117, 116, 97, 116, 105, 111, 110] || n == [83, 117, 98, 115, 99, 114, 105, 112, 116, 105, 111, 110]
def badKind (d : Def) : Bool := (rootS d.name && d.kind != 1) || decide (d.kind < 1) || decide (d.kind > 5)
def twiceF (ds : List Def) (i : Nat) (n : Str) : Bool := scalF n || (ds.take i).any fun o => o.name == n
def wholeF (ds : List Def) (i : Nat) (d : Def) : List Fault :=
  namesF d.name false (twiceF ds i d.name) d.name ++ (if emptyF d = true then [⟨8, d.name⟩] else []) ++ (if badKind d = true then [⟨9, d.name⟩] else []) ++ (if circB ds d = true then [⟨5, d.name⟩] else [])
theorem namesF_len (n : Str) (a b : Bool) (s : Str) : (namesF n a b s).length ≤ 2 := by
  unfold namesF; split <;> split <;> simp
theorem whole_ok (H : Pr P) (ds : List Def) (hD : DocOk ds) (hil : ∀ o, o ∈ ds → o.inputs.length ≤ 2199023255552) (i : Nat) (d : Def) (h : ds[i]? = some d) : FnOk P 29 [docV ds, .t (.int .i64 i)] ⟨[], 0⟩ { v := .t (.lst ((wholeF ds i d).map Fault.enc)) } := by
  have hdm := List.mem_of_getElem? h
  have hd := hD.d d hdm
  have hnm := hd.nm
  have hdl := hD.l
  have hi : i < ds.length := (List.getElem?_eq_some_iff.1 h).1
  have hnl := namesF_len d.name false (twiceF ds i d.name) d.name
  have e0 : twiceF ds i d.name = (scalF d.name || (ds.take i).any fun o => o.name == d.name) := rfl
  refine FnOk.run H.i29 H.mixed rfl rfl ?_
  refine fR rfl ?_
  refine Mid.elemMap rfl rfl rfl h rfl rfl ?_
  refine fM rfl ?_
  refine Mid.call (rScalar_ok H d.name) rfl rfl rfl rfl ?_
  refine fM rfl ?_
  refine rList (ds.take i) (fun j (B : Bool) => { env := [(1, .t (.int .i64 i)), (2, .ptr 0 0), (5, .ptr 1 0), (6, .t (.bool B)), (7, .t (.int .i64 j))], s := ⟨[(0, .cells [.t (.lst (ds.map Def.enc))]), (1, .cells [.t (.int .i64 d.kind), .t (.str d.name), .t (.lst (d.implements.map sE)), .t (.lst (d.dirs.map Dir.enc)), .t (.lst (d.fields.map Field.enc)), .t (.lst (d.members.map Member.enc)), .t (.lst (d.inputs.map Input.enc))])], 2⟩ }) (fun r j B => twiceF ds i d.name = (B || r.any fun o => o.name == d.name)) 2 (scalF d.name) rfl e0 rfl rfl rfl ?_ ?_
  · intro B hB
    have hl : (ds.take i).length = i := by simp; omega
    have hB' : twiceF ds i d.name = B := by rw [hB]; simp
    rw [hl]
    have t0 : ∀ L : List Fault, L.length ≤ 5 → L = wholeF ds i d → Run P n29 0 (EndOk ⟨[], 0⟩ { v := .t (.lst ((wholeF ds i d).map Fault.enc)) } r29 .ret) (advK 200 [It.c c29_0]) { env := [(8, .own 2 2 (L.map Fault.enc))], s := ⟨[(2, .arr L.length)], 3⟩ } := by
      rintro L hLl rfl
      refine fR rfl ?_
      refine Run.fin rfl (EndOk.go ?_); exact .own rfl
    have t3 : ∀ L : List Fault, L.length ≤ 4 → L ++ (if circB ds d = true then [⟨5, d.name⟩] else []) = wholeF ds i d → Run P n29 0 (EndOk ⟨[], 0⟩ { v := .t (.lst ((wholeF ds i d).map Fault.enc)) } r29 .ret) (advK 200 [It.c c29_3]) { env := [(2, .ptr 0 0), (5, .ptr 1 0), (8, .own 2 2 (L.map Fault.enc))], s := ⟨[(0, .cells [.t (.lst (ds.map Def.enc))]), (1, .cells [.t (.int .i64 d.kind), .t (.str d.name), .t (.lst (d.implements.map sE)), .t (.lst (d.dirs.map Dir.enc)), .t (.lst (d.fields.map Field.enc)), .t (.lst (d.members.map Member.enc)), .t (.lst (d.inputs.map Input.enc))]), (2, .arr L.length)], 3⟩ } := by
      rintro L hLl hL
      refine fR rfl ?_
      refine Mid.call (circular_ok H ds hD d hd (by intro o ho; rcases List.mem_cons.1 ho with rfl | ho; exact hil _ hdm; exact hil _ ho)) rfl rfl rfl rfl ?_
      refine fM rfl ?_
      refine Run.cond rfl rfl (fun hc => ?_) (fun hc => ?_)
      · refine fR rfl ?_
        refine apM Fault.enc L [(⟨5, d.name⟩ : Fault)] rfl rfl rfl rfl rfl ?_ (h1 := by simp; omega) (h2 := by simp; omega)
        refine Mid.fast (f := 1) rfl trivial ?_
        refine Mid.done0 rfl ?_
        exact rWeakC 3 rfl (t0 (L ++ [⟨5, d.name⟩]) (by simp; omega) (by rw [← hL, if_pos (show circB ds d = true from hc)] <;> simp)) rfl rfl rfl
      · exact rWeakC 3 rfl (t0 L (by omega) (by rw [← hL, if_neg (show ¬ circB ds d = true by rw [show circB ds d = false from hc]; simp)] <;> simp)) rfl rfl rfl
    have t7 : ∀ L : List Fault, L.length ≤ 3 → L ++ (if badKind d = true then [⟨9, d.name⟩] else []) ++ (if circB ds d = true then [⟨5, d.name⟩] else []) = wholeF ds i d → Run P n29 0 (EndOk ⟨[], 0⟩ { v := .t (.lst ((wholeF ds i d).map Fault.enc)) } r29 .ret) (advK 200 [It.c c29_7]) { env := [(2, .ptr 0 0), (5, .ptr 1 0), (8, .own 2 2 (L.map Fault.enc))], s := ⟨[(0, .cells [.t (.lst (ds.map Def.enc))]), (1, .cells [.t (.int .i64 d.kind), .t (.str d.name), .t (.lst (d.implements.map sE)), .t (.lst (d.dirs.map Dir.enc)), .t (.lst (d.fields.map Field.enc)), .t (.lst (d.members.map Member.enc)), .t (.lst (d.inputs.map Input.enc))]), (2, .arr L.length)], 3⟩ } := by
      rintro L hLl hL
      refine fR rfl ?_
      refine Run.cond rfl rfl (fun hb => ?_) (fun hb => ?_)
      · refine fR rfl ?_
        refine apM Fault.enc L [(⟨9, d.name⟩ : Fault)] rfl rfl rfl rfl rfl ?_ (h1 := by simp; omega) (h2 := by simp; omega)
        refine Mid.fast (f := 1) rfl trivial ?_
        refine Mid.done0 rfl ?_
        exact rWeakC 3 rfl (t3 (L ++ [⟨9, d.name⟩]) (by simp; omega) (by rw [← hL, if_pos (show badKind d = true from hb)] <;> simp)) rfl rfl rfl
      · exact rWeakC 3 rfl (t3 L (by omega) (by rw [← hL, if_neg (show ¬ badKind d = true by rw [show badKind d = false from hb]; simp)] <;> simp)) rfl rfl rfl
    refine fR rfl ?_
    refine Run.condF rfl rfl (by simp) ?_
    refine fR rfl ?_
    rw [hB'] at hnl
    refine Mid.callO [] (namesO_ok H d.name hnm false B d.name) rfl rfl rfl rfl (by simp [stoBd]) (by repeat' (first | exact trivial | exact rfl | refine And.intro ?_ ?_ | exact (congrArg some (AObj.ren_mE _ _ _ _ _ _)).symm | exact (congrArg some (AObj.ren_cE _ _ _)).symm)) rfl rfl (ob' := [(2, .arr (namesF d.name false B d.name).length)]) (rfl) rfl rfl ?_
    refine fM rfl ?_
    refine Mid.call (empty_ok H d) rfl rfl rfl rfl ?_
    refine fM rfl ?_
    have hL : namesF d.name false B d.name ++ (if emptyF d = true then [⟨8, d.name⟩] else []) ++ (if badKind d = true then [⟨9, d.name⟩] else []) ++ (if circB ds d = true then [⟨5, d.name⟩] else []) = wholeF ds i d := by unfold wholeF; rw [hB']
    generalize namesF d.name false B d.name = L at hL hnl
    refine Run.cond rfl rfl (fun he => ?_) (fun he => ?_)
    · refine fR rfl ?_
      refine apM Fault.enc L [(⟨8, d.name⟩ : Fault)] rfl rfl rfl rfl rfl ?_ (h1 := by simp; omega) (h2 := by simp; omega)
      refine Mid.fast (f := 1) rfl trivial ?_
      refine Mid.done0 rfl ?_
      exact rWeakC 3 rfl (t7 (L ++ [⟨8, d.name⟩]) (by simp; omega) (by rw [← hL, if_pos (show emptyF d = true from he)] <;> simp)) rfl rfl rfl
    · exact rWeakC 3 rfl (t7 L (by omega) (by rw [← hL, if_neg (show ¬ emptyF d = true by rw [show emptyF d = false from he]; simp)] <;> simp)) rfl rfl rfl
  · intro j o r B h1 hj hjd hB ih
    have hji : j < i := by simp at hj; omega
    have ho : ds[j]? = some o := by rw [List.getElem?_take] at h1; rw [if_pos hji] at h1; exact h1
    have hjl : j < ds.length := by omega
    refine fR rfl ?_
    refine Run.condT rfl rfl (by simp; omega) ?_
    refine fR rfl ?_
    refine elG rfl rfl rfl rfl ho rfl rfl ?_
    refine fM rfl ?_
    refine aL rfl rfl rfl rfl rfl ?_
    refine fM rfl ?_
    exact rWeak 2 rfl (ih (B || o.name == d.name) (by rw [hB]; simp only [List.any_cons]; cases B <;> simp)) rfl rfl rfl
end Go.GB.C11


/-
  D11V: contracts of chapter 11's functions: the lists of the schema's check.
-/
namespace Go.GB.C11
open Go.GB
set_option linter.unusedSimpArgs false
set_option linter.unusedVariables false
set_option maxRecDepth 100000
set_option maxHeartbeats 2000000
variable {P : Program}

def inOne (ds : List Def) (p : List Input) (x : Input) (at_ : Str) : List Fault :=
  namesF x.name false (findInput x.name p).isSome at_ ++ (if knownF ds x.ty.name = false then [⟨8, at_⟩] else if isInF ds x.ty.name = false then [⟨10, at_⟩] else [])
def inF (ds : List Def) (pre post : Str) : List Input → List Input → List Fault
  | _, [] => []
  | p, x :: r => inOne ds p x (pre ++ x.name ++ post) ++ inF ds pre post (p ++ [x]) r
theorem inputs_ok (H : Pr P) (ds : List Def) (hD : DocOk ds) (l : List Input) (hl : l.length ≤ 140737488355328) (hlo : ∀ y, y ∈ l → y.Ok) (pre post : Str) (hp : pre.length ≤ 1125899906842624) (hq : post.length ≤ 1125899906842624) (ht : (inF ds pre post [] l).length ≤ 4398046511104) :
    FnOk P 32 [docV ds, .t (.lst (l.map Input.enc)), .t (.str pre), .t (.str post)] ⟨[], 0⟩ { v := .t (.lst ((inF ds pre post [] l).map Fault.enc)) } := by
  generalize hT : inF ds pre post [] l = tot at ht
  refine FnOk.run H.i32 H.mixed rfl rfl ?_
  refine fR rfl ?_
  refine rList l (fun i (B : List Fault) => { env := [(1, .t (.lst (l.map Input.enc))), (2, .t (.str pre)), (3, .t (.str post)), (4, .ptr 0 0), (9, .own 1 2 (B.map Fault.enc)), (10, .t (.int .i64 i))], s := ⟨[(0, .cells [.t (.lst (ds.map Def.enc))]), (1, .arr B.length)], 2⟩ }) (fun r i B => B ++ inF ds pre post (l.take i) r = tot) 1 [] rfl (by simpa using hT) rfl rfl rfl ?_ ?_
  · rintro B hB
    obtain rfl : B = tot := by rw [← hB]; simp [inF]
    refine fR rfl ?_
    refine lM rfl rfl rfl ?_
    refine fM rfl ?_
    refine Run.condF rfl rfl (by simp) ?_
    refine fR rfl ?_
    refine Run.fin rfl (EndOk.go ?_); exact .own rfl
  · rintro i x r B h1 hi hd hB ih
    have hx := hlo x (List.mem_of_getElem? h1)
    have hxn := hx.nm
    have htk : l.take i ++ [x] = l.take (i + 1) := by rw [List.take_add_one, h1]; rfl
    have htkl : (l.take i).length ≤ 140737488355328 := by simp; omega
    simp only [inF, inOne, htk] at hB
    generalize hAt : pre ++ x.name ++ post = at_ at hB
    have hatl : at_.length ≤ 4503599627370496 := by rw [← hAt]; simp; omega
    have hlen := congrArg List.length hB
    simp only [List.length_append] at hlen
    refine fR rfl ?_
    refine lM rfl rfl rfl ?_
    refine fM rfl ?_
    refine Run.condT rfl rfl (by simp; omega) ?_
    refine fR rfl ?_
    refine Mid.elemMap rfl rfl rfl h1 rfl rfl ?_
    refine fM rfl ?_
    refine pu rfl ?_
    refine fM rfl ?_
    refine pu rfl ?_
    refine fM rfl ?_
    refine lTo rfl rfl rfl rfl ?_
    refine fM rfl ?_
    rw [hAt]
    refine Mid.elemMap rfl rfl rfl h1 rfl rfl ?_
    refine fM rfl ?_
    refine Mid.call (rInputOf_ok H (l.take i) htkl x.name) rfl rfl rfl rfl ?_
    refine fM rfl ?_
    refine Mid.elemMap rfl rfl rfl h1 rfl rfl ?_
    refine fM rfl ?_
    refine Mid.call (names_ok H x.name hxn false (findInput x.name (l.take i)).isSome at_) rfl rfl rfl rfl ?_
    skip
    generalize namesF x.name false (findInput x.name (l.take i)).isSome at_ = N at hB hlen
    refine apM Fault.enc B N rfl rfl rfl rfl rfl ?_ (h1 := by first | omega | (simp; omega) | (simp; done)) (h2 := by first | omega | (simp; omega) | (simp; done))
    refine fM rfl ?_
    refine Mid.elemMap rfl rfl rfl h1 rfl rfl ?_
    refine fM rfl ?_
    refine Mid.call (known_ok H ds hD x.ty.name) rfl rfl rfl rfl ?_
    refine fM rfl ?_
    refine Run.cond rfl rfl (fun hk => ?_) (fun hk => ?_)
    · have hk' : knownF ds x.ty.name = false := by simpa using hk
      rw [if_pos hk'] at hB hlen
      simp only [List.length_cons, List.length_nil] at hlen
      refine fR rfl ?_
      refine apM Fault.enc (B ++ N) [(⟨8, at_⟩ : Fault)] rfl rfl rfl rfl rfl ?_ (h1 := by first | omega | (simp; omega) | (simp; done)) (h2 := by first | omega | (simp; omega) | (simp; done))
      refine fM rfl ?_
      refine aL rfl rfl rfl rfl rfl ?_
      refine fM rfl ?_
      exact rWeak 2 rfl (ih (B ++ N ++ [⟨8, at_⟩]) (by rw [← hB]; simp)) rfl rfl rfl
    · have hk' : ¬ knownF ds x.ty.name = false := by simpa using hk
      rw [if_neg hk'] at hB hlen
      refine fR rfl ?_
      refine Mid.elemMap rfl rfl rfl h1 rfl rfl ?_
      refine fM rfl ?_
      refine Mid.call (isInput_ok H ds hD x.ty.name) rfl rfl rfl rfl ?_
      refine fM rfl ?_
      refine Run.cond rfl rfl (fun hy => ?_) (fun hy => ?_)
      · have hy' : isInF ds x.ty.name = false := by simpa using hy
        rw [if_pos hy'] at hB hlen
        simp only [List.length_cons, List.length_nil] at hlen
        refine fR rfl ?_
        refine apM Fault.enc (B ++ N) [(⟨10, at_⟩ : Fault)] rfl rfl rfl rfl rfl ?_ (h1 := by first | omega | (simp; omega) | (simp; done)) (h2 := by first | omega | (simp; omega) | (simp; done))
        refine fM rfl ?_
        refine aL rfl rfl rfl rfl rfl ?_
        refine fM rfl ?_
        exact rWeak 2 rfl (ih (B ++ N ++ [⟨10, at_⟩]) (by rw [← hB]; simp)) rfl rfl rfl
      · have hy' : ¬ isInF ds x.ty.name = false := by simpa using hy
        rw [if_neg hy'] at hB hlen
        refine fR rfl ?_
        refine aL rfl rfl rfl rfl rfl ?_
        refine fM rfl ?_
        exact rWeak 2 rfl (ih (B ++ N) (by rw [← hB]; simp)) rfl rfl rfl

def fldB (ds : List Def) (n : Str) : Bool := !scalF n && (findDef n ds).isSome && ((findDef n ds).getD Def.zero).kind == 5
def fldOne (ds : List Def) (p : List Field) (x : Field) (at_ : Str) : List Fault :=
  namesF x.name false (findField x.name p).isSome at_ ++ (if knownF ds x.ty.name = false then [⟨8, at_⟩] else if fldB ds x.ty.name = true then [⟨10, at_⟩] else []) ++ inF ds (at_ ++ [40]) [41] [] x.args
def fldL (ds : List Def) (n : Str) : List Field → List Field → List Fault
  | _, [] => []
  | p, x :: r => fldOne ds p x (n ++ [46] ++ x.name) ++ fldL ds n (p ++ [x]) r
theorem fields_ok (H : Pr P) (ds : List Def) (hD : DocOk ds) (d : Def) (hd : d.Ok) (ht : (fldL ds d.name [] d.fields).length ≤ 4398046511104) : FnOk P 30 [docV ds, d.v] ⟨[], 0⟩ { v := .t (.lst ((fldL ds d.name [] d.fields).map Fault.enc)) } := by
  have hfl := hd.fl
  have hnm := hd.nm
  generalize hT : fldL ds d.name [] d.fields = tot at ht
  refine FnOk.run H.i30 H.mixed rfl rfl ?_
  refine fR rfl ?_
  refine rList d.fields (fun i (B : List Fault) => { env := [(2, .ptr 0 0), (3, .ptr 1 0), (5, .own 2 2 (B.map Fault.enc)), (6, .t (.int .i64 i))], s := ⟨[(0, .cells [.t (.lst (ds.map Def.enc))]), (1, .cells [.t (.int .i64 d.kind), .t (.str d.name), .t (.lst (d.implements.map sE)), .t (.lst (d.dirs.map Dir.enc)), .t (.lst (d.fields.map Field.enc)), .t (.lst (d.members.map Member.enc)), .t (.lst (d.inputs.map Input.enc))]), (2, .arr B.length)], 3⟩ }) (fun r i B => B ++ fldL ds d.name (d.fields.take i) r = tot) 2 [] rfl (by simpa using hT) rfl rfl rfl ?_ ?_
  · rintro B hB
    obtain rfl : B = tot := by rw [← hB]; simp [fldL]
    refine fR rfl ?_
    refine lM rfl rfl rfl ?_
    refine fM rfl ?_
    refine Run.condF rfl rfl (by simp) ?_
    refine fR rfl ?_
    refine Run.fin rfl (EndOk.go ?_); exact .own rfl
  · rintro i x r B h1 hi hdr hB ih
    have hx := hd.f x (List.mem_of_getElem? h1)
    have hxn := hx.nm
    have hxl := hx.al
    have htk : d.fields.take i ++ [x] = d.fields.take (i + 1) := by rw [List.take_add_one, h1]; rfl
    have htkl : (d.fields.take i).length ≤ 140737488355328 := by simp; omega
    simp only [fldL, fldOne, htk] at hB
    generalize hAt : d.name ++ [46] ++ x.name = at_ at hB
    have hatl : at_.length ≤ 1125899906842000 := by rw [← hAt]; simp; omega
    have hlen := congrArg List.length hB
    simp only [List.length_append] at hlen
    refine fR rfl ?_
    refine lM rfl rfl rfl ?_
    refine fM rfl ?_
    refine Run.condT rfl rfl (by simp; omega) ?_
    refine fR rfl ?_
    refine Mid.elemMap rfl rfl rfl h1 rfl rfl ?_
    refine fM rfl ?_
    refine pu rfl ?_
    refine fM rfl ?_
    refine pu rfl ?_
    refine fM rfl ?_
    refine lTo rfl rfl rfl rfl ?_
    refine fM rfl ?_
    rw [hAt]
    refine Mid.call (rFieldOf_ok H ⟨0, [], [], [], d.fields.take i, [], []⟩ htkl x.name) rfl rfl rfl rfl ?_
    refine fM rfl ?_
    refine Mid.call (names_ok H x.name hxn false (findField x.name (d.fields.take i)).isSome at_) rfl rfl rfl rfl ?_
    skip
    generalize namesF x.name false (findField x.name (d.fields.take i)).isSome at_ = N at hB hlen
    refine apM Fault.enc B N rfl rfl rfl rfl rfl ?_ (h1 := by first | omega | (simp; omega) | (simp; done)) (h2 := by first | omega | (simp; omega) | (simp; done))
    refine fM rfl ?_
    refine Mid.call (rFind_ok H ds hD.l x.ty.name) rfl rfl rfl rfl ?_
    refine fM rfl ?_
    refine Mid.call (known_ok H ds hD x.ty.name) rfl rfl rfl rfl ?_
    refine fM rfl ?_
    refine Run.cond rfl rfl (fun hk => ?_) (fun hk => ?_)
    · have hk' : knownF ds x.ty.name = false := by simpa using hk
      rw [if_pos hk'] at hB hlen
      simp only [List.length_cons, List.length_nil] at hlen
      refine fR rfl ?_
      refine apM Fault.enc (B ++ N) [(⟨8, at_⟩ : Fault)] rfl rfl rfl rfl rfl ?_ (h1 := by first | omega | (simp; omega) | (simp; done)) (h2 := by first | omega | (simp; omega) | (simp; done))
      refine fM rfl ?_
      refine pu rfl ?_
      refine Mid.call (inputs_ok H ds hD x.args hxl hx.a (at_ ++ [40]) [41] (by simp; omega) (by decide) (by omega)) rfl rfl rfl rfl ?_
      skip
      generalize inF ds (at_ ++ [40]) [41] [] x.args = M at hB hlen
      refine apM Fault.enc (B ++ N ++ [⟨8, at_⟩]) M rfl rfl rfl rfl rfl ?_ (h1 := by first | omega | (simp; omega) | (simp; done)) (h2 := by first | omega | (simp; omega) | (simp; done))
      refine fM rfl ?_
      refine aL rfl rfl rfl rfl rfl ?_
      refine fM rfl ?_
      exact rWeak 3 rfl (ih (B ++ N ++ [⟨8, at_⟩] ++ M) (by rw [← hB]; simp)) rfl rfl rfl
    · have hk' : ¬ knownF ds x.ty.name = false := by simpa using hk
      rw [if_neg hk'] at hB hlen
      refine fR rfl ?_
      refine Mid.call (rScalar_ok H x.ty.name) rfl rfl rfl rfl ?_
      refine fM rfl ?_
      refine Run.cond rfl rfl (fun hy => ?_) (fun hy => ?_)
      · have hy' : fldB ds x.ty.name = true := hy
        rw [if_pos hy'] at hB hlen
        simp only [List.length_cons, List.length_nil] at hlen
        refine fR rfl ?_
        refine apM Fault.enc (B ++ N) [(⟨10, at_⟩ : Fault)] rfl rfl rfl rfl rfl ?_ (h1 := by first | omega | (simp; omega) | (simp; done)) (h2 := by first | omega | (simp; omega) | (simp; done))
        refine fM rfl ?_
        refine pu rfl ?_
        refine Mid.call (inputs_ok H ds hD x.args hxl hx.a (at_ ++ [40]) [41] (by simp; omega) (by decide) (by omega)) rfl rfl rfl rfl ?_
        skip
        generalize inF ds (at_ ++ [40]) [41] [] x.args = M at hB hlen
        refine apM Fault.enc (B ++ N ++ [⟨10, at_⟩]) M rfl rfl rfl rfl rfl ?_ (h1 := by first | omega | (simp; omega) | (simp; done)) (h2 := by first | omega | (simp; omega) | (simp; done))
        refine fM rfl ?_
        refine aL rfl rfl rfl rfl rfl ?_
        refine fM rfl ?_
        exact rWeak 3 rfl (ih (B ++ N ++ [⟨10, at_⟩] ++ M) (by rw [← hB]; simp)) rfl rfl rfl
      · have hy' : ¬ fldB ds x.ty.name = true := by rw [show fldB ds x.ty.name = false from hy]; simp
        rw [if_neg hy'] at hB hlen
        simp only [List.length_nil] at hlen
        refine fR rfl ?_
        refine pu rfl ?_
        refine Mid.call (inputs_ok H ds hD x.args hxl hx.a (at_ ++ [40]) [41] (by simp; omega) (by decide) (by omega)) rfl rfl rfl rfl ?_
        skip
        generalize inF ds (at_ ++ [40]) [41] [] x.args = M at hB hlen
        refine apM Fault.enc (B ++ N) M rfl rfl rfl rfl rfl ?_ (h1 := by first | omega | (simp; omega) | (simp; done)) (h2 := by first | omega | (simp; omega) | (simp; done))
        refine fM rfl ?_
        refine aL rfl rfl rfl rfl rfl ?_
        refine fM rfl ?_
        exact rWeak 3 rfl (ih (B ++ N ++ M) (by rw [← hB]; simp)) rfl rfl rfl

def memBad (n : Str) : Bool := n == [116, 114, 117, 101] || n == [102, 97, 108, 115, 101] || n == [110, 117, 108, 108]
def memL (t : Str) : List Member → List Member → List Fault
  | _, [] => []
  | p, x :: r => namesF x.name (memBad x.name) (memF p x.name) (t ++ [46] ++ x.name) ++ memL t (p ++ [x]) r
theorem members_ok (H : Pr P) (d : Def) (hd : d.Ok) (ht : (memL d.name [] d.members).length ≤ 4398046511104) : FnOk P 31 [d.v] ⟨[], 0⟩ { v := .t (.lst ((memL d.name [] d.members).map Fault.enc)) } := by
  have hfl := hd.ml
  have hnm := hd.nm
  generalize hT : memL d.name [] d.members = tot at ht
  refine FnOk.run H.i31 H.mixed rfl rfl ?_
  refine fR rfl ?_
  refine rList d.members (fun i (B : List Fault) => { env := [(1, .ptr 0 0), (3, .own 1 2 (B.map Fault.enc)), (4, .t (.int .i64 i))], s := ⟨[(0, .cells [.t (.int .i64 d.kind), .t (.str d.name), .t (.lst (d.implements.map sE)), .t (.lst (d.dirs.map Dir.enc)), .t (.lst (d.fields.map Field.enc)), .t (.lst (d.members.map Member.enc)), .t (.lst (d.inputs.map Input.enc))]), (1, .arr B.length)], 2⟩ }) (fun r i B => B ++ memL d.name (d.members.take i) r = tot) 1 [] rfl (by simpa using hT) rfl rfl rfl ?_ ?_
  · rintro B hB
    obtain rfl : B = tot := by rw [← hB]; simp [memL]
    refine fR rfl ?_
    refine lM rfl rfl rfl ?_
    refine fM rfl ?_
    refine Run.condF rfl rfl (by simp) ?_
    refine fR rfl ?_
    refine Run.fin rfl (EndOk.go ?_); exact .own rfl
  · rintro i x r B h1 hi hdr hB ih
    have hx := hd.m x (List.mem_of_getElem? h1)
    have hxn := hx.nm
    have htk : d.members.take i ++ [x] = d.members.take (i + 1) := by rw [List.take_add_one, h1]; rfl
    have htkl : (d.members.take i).length ≤ 140737488355328 := by simp; omega
    simp only [memL, htk] at hB
    generalize hAt : d.name ++ [46] ++ x.name = at_ at hB
    have hatl : at_.length ≤ 1125899906842000 := by rw [← hAt]; simp; omega
    have hlen := congrArg List.length hB
    simp only [List.length_append] at hlen
    refine fR rfl ?_
    refine lM rfl rfl rfl ?_
    refine fM rfl ?_
    refine Run.condT rfl rfl (by simp; omega) ?_
    refine fR rfl ?_
    refine Mid.elemMap rfl rfl rfl h1 rfl rfl ?_
    refine fM rfl ?_
    refine rList (d.members.take i) (fun j (C : Bool) => { env := [(1, .ptr 0 0), (3, .own 1 2 (B.map Fault.enc)), (4, .t (.int .i64 i)), (5, .t (.str x.name)), (6, .t (.bool C)), (7, .t (.int .i64 j))], s := ⟨[(0, .cells [.t (.int .i64 d.kind), .t (.str d.name), .t (.lst (d.implements.map sE)), .t (.lst (d.dirs.map Dir.enc)), .t (.lst (d.fields.map Field.enc)), .t (.lst (d.members.map Member.enc)), .t (.lst (d.inputs.map Input.enc))]), (1, .arr B.length)], 2⟩ }) (fun r j C => memF (d.members.take i) x.name = (C || memF r x.name)) 2 false rfl (by simp) rfl rfl rfl ?_ ?_
    · intro C hC
      have hl : (d.members.take i).length = i := by simp; omega
      have hC' : memF (d.members.take i) x.name = C := by rw [hC]; simp [memF]
      rw [hl]
      rw [hC'] at hB hlen
      refine fR rfl ?_
      refine Run.condF rfl rfl (by simp) ?_
      refine fR rfl ?_
      refine pu rfl ?_
      refine fM rfl ?_
      refine pu rfl ?_
      rw [hAt]
      refine Mid.call (names_ok H x.name hxn (memBad x.name) C at_) rfl rfl rfl rfl ?_
      skip
      generalize namesF x.name (memBad x.name) C at_ = N at hB hlen
      refine apM Fault.enc B N rfl rfl rfl rfl rfl ?_ (h1 := by first | omega | (simp; omega) | (simp; done)) (h2 := by first | omega | (simp; omega) | (simp; done))
      refine fM rfl ?_
      refine aL rfl rfl rfl rfl rfl ?_
      refine fM rfl ?_
      exact rWeak 2 rfl (ih (B ++ N) (by rw [← hB]; simp)) rfl rfl rfl
    · intro j o r2 C h2 hj hjd hC ih2
      have hji : j < i := by simp at hj; omega
      have ho : d.members[j]? = some o := by rw [List.getElem?_take] at h2; rw [if_pos hji] at h2; exact h2
      have hjl : j < d.members.length := by omega
      refine fR rfl ?_
      refine Run.condT rfl rfl (by simp; omega) ?_
      refine fR rfl ?_
      refine elG rfl rfl rfl rfl ho rfl rfl ?_
      refine fM rfl ?_
      refine aL rfl rfl rfl rfl rfl ?_
      refine fM rfl ?_
      exact rWeak 2 rfl (ih2 (C || o.name == x.name) (by rw [hC]; simp only [memF, List.any_cons]; cases C <;> simp)) rfl rfl rfl
end Go.GB.C11


/-
  D11W: contracts of chapter 11's functions: the schema's check.
-/
namespace Go.GB.C11
open Go.GB
set_option linter.unusedSimpArgs false
set_option linter.unusedVariables false
set_option maxRecDepth 100000
set_option maxHeartbeats 2000000
variable {P : Program}

def tQuery : Str := [81, 117, 101, 114, 121]
def chkK (ds : List Def) (d : Def) : List Fault :=
  if d.kind = 1 then fldL ds d.name [] d.fields else if d.kind = 2 then fldL ds d.name [] d.fields
  else if d.kind = 4 then memL d.name [] d.members else if d.kind = 5 then inF ds (d.name ++ [46]) [] [] d.inputs else []
def chkL (ds : List Def) : Nat → List Def → List Fault
  | _, [] => []
  | i, d :: r => wholeF ds i d ++ chkK ds d ++ chkL ds (i + 1) r
def chkQ (ds : List Def) (q : Bool) : List Fault := if (q && !(findDef tQuery ds).isSome) = true then [⟨30, tQuery⟩] else []
def checkF (ds : List Def) (q : Bool) : List Fault := chkL ds 0 ds ++ chkQ ds q
theorem check_ok (H : Pr P) (ds : List Def) (hD : DocOk ds) (hil : ∀ o, o ∈ ds → o.inputs.length ≤ 2199023255552) (q : Bool) (ht : (checkF ds q).length ≤ 4398046511104) : FnOk P 13 [docV ds, .t (.bool q)] ⟨[], 0⟩ { v := .t (.lst ((checkF ds q).map Fault.enc)) } := by
  have hdl := hD.l
  have hT : chkL ds 0 ds ++ chkQ ds q = checkF ds q := rfl
  generalize checkF ds q = tot at ht hT
  refine FnOk.run H.i13 H.mixed rfl rfl ?_
  refine fR rfl ?_
  refine rList ds (fun i (B : List Fault) => { env := [(1, .t (.bool q)), (2, .ptr 0 0), (5, .own 1 2 (B.map Fault.enc)), (6, .t (.int .i64 i))], s := ⟨[(0, .cells [.t (.lst (ds.map Def.enc))]), (1, .arr B.length)], 2⟩ }) (fun r i B => B ++ chkL ds i r ++ chkQ ds q = tot) 1 [] rfl (by simpa using hT) rfl rfl rfl ?_ ?_
  · rintro B hB
    simp only [chkL, List.append_nil] at hB
    have hlen := congrArg List.length hB
    simp only [List.length_append] at hlen
    refine fR rfl ?_
    refine lM rfl rfl rfl ?_
    refine fM rfl ?_
    refine Run.condF rfl rfl (by simp) ?_
    refine fR rfl ?_
    refine Mid.call (rFind_ok H ds hD.l tQuery) rfl rfl rfl rfl ?_
    refine fM rfl ?_
    refine Run.cond rfl rfl (fun hc => ?_) (fun hc => ?_)
    · have hc' : chkQ ds q = [⟨30, tQuery⟩] := by unfold chkQ; rw [if_pos (show (q && !(findDef tQuery ds).isSome) = true from hc)]
      rw [hc'] at hB hlen
      simp only [List.length_cons, List.length_nil] at hlen
      refine fR rfl ?_
      refine apM Fault.enc B [(⟨30, tQuery⟩ : Fault)] rfl rfl rfl rfl rfl ?_ (h1 := by first | omega | (simp; omega) | (simp; done)) (h2 := by first | omega | (simp; omega) | (simp; done))
      refine fM rfl ?_
      refine Run.fin rfl (EndOk.go ?_); exact .own (by rw [hB])
    · have hc' : chkQ ds q = [] := by unfold chkQ; rw [if_neg (by rw [show (q && !(findDef tQuery ds).isSome) = false from hc]; simp)]
      rw [hc'] at hB
      refine fR rfl ?_
      refine Run.fin rfl (EndOk.go ?_); exact .own (by rw [← hB]; simp)
  · rintro i d r B h1 hi hdr hB ih
    have hd := hD.d d (List.mem_of_getElem? h1)
    have hnm := hd.nm
    have hnl := hd.nl
    simp only [chkL] at hB
    have hlen := congrArg List.length hB
    simp only [List.length_append] at hlen
    refine fR rfl ?_
    refine lM rfl rfl rfl ?_
    refine fM rfl ?_
    refine Run.condT rfl rfl (by simp; omega) ?_
    refine fR rfl ?_
    refine Mid.elemMap rfl rfl rfl h1 rfl rfl ?_
    refine fM rfl ?_
    refine Mid.call (whole_ok H ds hD hil i d h1) rfl rfl rfl rfl ?_
    skip
    generalize wholeF ds i d = W at hB hlen
    refine apM Fault.enc B W rfl rfl rfl rfl rfl ?_ (h1 := by first | omega | (simp; omega) | (simp; done)) (h2 := by first | omega | (simp; omega) | (simp; done))
    refine fM rfl ?_
    unfold chkK at hB hlen
    refine Run.cond rfl rfl (fun k1 => ?_) (fun k1 => ?_)
    · have k1' : d.kind = 1 := by simpa using k1
      rw [if_pos k1'] at hB hlen
      skip
      refine Run.condT rfl rfl k1 ?_
      refine fR rfl ?_
      refine Mid.call (fields_ok H ds hD d hd (by omega)) rfl rfl rfl rfl ?_
      skip
      generalize fldL ds d.name [] d.fields = M at hB hlen
      refine apM Fault.enc (B ++ W) M rfl rfl rfl rfl rfl ?_ (h1 := by first | omega | (simp; omega) | (simp; done)) (h2 := by first | omega | (simp; omega) | (simp; done))
      refine fM rfl ?_
      refine aL rfl rfl rfl rfl rfl ?_
      refine fM rfl ?_
      exact rWeak 2 rfl (ih (B ++ W ++ M) (by rw [← hB]; simp)) rfl rfl rfl
    · have k1' : ¬ d.kind = 1 := by simpa using k1
      rw [if_neg k1'] at hB hlen
      refine fR rfl ?_
      refine Run.cond rfl rfl (fun k2 => ?_) (fun k2 => ?_)
      · have k2' : d.kind = 2 := by simpa using k2
        rw [if_pos k2'] at hB hlen
        refine fR rfl ?_
        refine Mid.call (fields_ok H ds hD d hd (by omega)) rfl rfl rfl rfl ?_
        skip
        generalize fldL ds d.name [] d.fields = M at hB hlen
        refine apM Fault.enc (B ++ W) M rfl rfl rfl rfl rfl ?_ (h1 := by first | omega | (simp; omega) | (simp; done)) (h2 := by first | omega | (simp; omega) | (simp; done))
        refine fM rfl ?_
        refine aL rfl rfl rfl rfl rfl ?_
        refine fM rfl ?_
        exact rWeak 2 rfl (ih (B ++ W ++ M) (by rw [← hB]; simp)) rfl rfl rfl
      · have k2' : ¬ d.kind = 2 := by simpa using k2
        rw [if_neg k2'] at hB hlen
        refine fR rfl ?_
        refine Run.cond rfl rfl (fun k4 => ?_) (fun k4 => ?_)
        · have k4' : d.kind = 4 := by simpa using k4
          rw [if_pos k4'] at hB hlen
          refine fR rfl ?_
          refine Mid.call (members_ok H d hd (by omega)) rfl rfl rfl rfl ?_
          skip
          generalize memL d.name [] d.members = M at hB hlen
          refine apM Fault.enc (B ++ W) M rfl rfl rfl rfl rfl ?_ (h1 := by first | omega | (simp; omega) | (simp; done)) (h2 := by first | omega | (simp; omega) | (simp; done))
          refine fM rfl ?_
          refine aL rfl rfl rfl rfl rfl ?_
          refine fM rfl ?_
          exact rWeak 2 rfl (ih (B ++ W ++ M) (by rw [← hB]; simp)) rfl rfl rfl
        · have k4' : ¬ d.kind = 4 := by simpa using k4
          rw [if_neg k4'] at hB hlen
          refine fR rfl ?_
          refine Run.cond rfl rfl (fun k5 => ?_) (fun k5 => ?_)
          · have k5' : d.kind = 5 := by simpa using k5
            rw [if_pos k5'] at hB hlen
            refine fR rfl ?_
            refine pu rfl ?_
            refine Mid.call (inputs_ok H ds hD d.inputs hnl hd.n (d.name ++ [46]) [] (by simp; omega) (by decide) (by omega)) rfl rfl rfl rfl ?_
            skip
            generalize inF ds (d.name ++ [46]) [] [] d.inputs = M at hB hlen
            refine apM Fault.enc (B ++ W) M rfl rfl rfl rfl rfl ?_ (h1 := by first | omega | (simp; omega) | (simp; done)) (h2 := by first | omega | (simp; omega) | (simp; done))
            refine fM rfl ?_
            refine aL rfl rfl rfl rfl rfl ?_
            refine fM rfl ?_
            exact rWeak 2 rfl (ih (B ++ W ++ M) (by rw [← hB]; simp)) rfl rfl rfl
          · have k5' : ¬ d.kind = 5 := by simpa using k5
            rw [if_neg k5'] at hB hlen
            refine fR rfl ?_
            refine aL rfl rfl rfl rfl rfl ?_
            refine fM rfl ?_
            exact rWeak 2 rfl (ih (B ++ W) (by rw [← hB]; simp)) rfl rfl rfl
end Go.GB.C11


/-
  GbX: what a law is handed, as trees; a law's row from its contract.
-/
namespace Go.GB
open Go.RowKit Go.WideShapes Go.ChangeShapes

abbrev allFix : Nat → Lab := fun _ => .fix none

/-- trees of a type -/
def WT (P : Program) : Nat → TypeId → List T → Prop
  | 0, _, _ => False
  | n + 1, t, ts =>
    match P.underlying t with
    | some .bool => ∃ b, ts = [.bool b]
    | some (.int k) => ∃ x, ts = [.int k x] ∧ (Lit.int k x).wf = true
    | some .string => ∃ s, ts = [.str s] ∧ s.length ≤ reachBytes
    | some (.slice e) => ∃ xs, ts = [.lst xs] ∧ xs.length * P.bytesOf e ≤ reachBytes ∧ xs.length ≤ maxLen ∧ ∀ c ∈ xs, WT P n e c
    | some (.struct fs) => ts.length = P.cellsOf t ∧ ∀ f ∈ fs.toList, WT P n f.type ((ts.drop f.offset).take (P.cellsOf f.type))
    | some (.array m e) => ts.length = P.cellsOf t ∧ ∀ i, i < m → WT P n e ((ts.drop (i * P.cellsOf e)).take (P.cellsOf e))
    | _ => False

/-- places that follow each other: where they end -/
def consec (P : Program) : Nat → List (Nat × TypeId) → Option Nat
  | off, [] => some off
  | off, (o, t) :: r => if o = off then consec P (off + P.cellsOf t) r else none

/-- types of plain data: closed under their parts -/
def plainT (P : Program) (S : List TypeId) : Bool :=
  S.all fun t =>
    match P.underlying t with
    | some .bool => true
    | some (.int _) => true
    | some .string => true
    | some (.slice e) => S.contains e && decide (0 < P.cellsOf e)
    | some (.struct fs) => (fs.toList.all fun f => S.contains f.type) && (consec P 0 (fs.toList.map fun f => (f.offset, f.type)) == some (P.cellsOf t))
    | some (.array m e) => S.contains e && (consec P 0 ((List.range m).map fun i => (i * P.cellsOf e, e)) == some (P.cellsOf t))
    | _ => false

def RepL (w : World) (cs : List Value) (ts : List T) : Prop := cs.length = ts.length ∧ ∀ (j : Nat) (v : Value) (x : T), cs[j]? = some v → ts[j]? = some x → RepT allFix w v x

theorem RepL.one {w : World} {v : Value} {x : T} (h : RepT allFix w v x) : RepL w [v] [x] := by
  refine ⟨rfl, fun j u y h1 h2 => ?_⟩
  cases j with
  | zero => simp at h1 h2; subst h1; subst h2; exact h
  | succ j => simp at h1

theorem mapM_at {α β : Type} {g : α → Option β} : ∀ {l : List α} {r : List β}, l.mapM g = some r → l.length = r.length ∧ ∀ (j : Nat) (x : α), l[j]? = some x → ∃ y, r[j]? = some y ∧ g x = some y
  | [], r, h => by simp at h; subst h; simp
  | a :: l, r, h => by
    simp only [List.mapM_cons, Option.bind_eq_bind, Option.pure_def, Option.bind_eq_some_iff] at h
    obtain ⟨y, hy, r', hr, h⟩ := h
    simp at h; subst h
    obtain ⟨i1, i2⟩ := mapM_at hr
    refine ⟨by simp [i1], fun j x hx => ?_⟩
    cases j with
    | zero => simp at hx; subst hx; exact ⟨y, rfl, hy⟩
    | succ j => simpa using i2 j x (by simpa using hx)

theorem spot_none {w : World} {a : Addr} {v : Value} (h : w.cell? a = some v) : a.spot = none := by
  unfold World.cell? at h
  cases hs : a.spot with
  | none => rfl
  | some s =>
    rw [hs] at h
    split at h <;> simp_all

theorem cells?_at {w : World} {base n : Nat} {a : Addr} {cs : List Value} (h : w.cells? base a n = some cs) : cs.length = n ∧ ∀ (j : Nat) (v : Value), cs[j]? = some v → w.cell? (a.add j) = some v := by
  unfold World.cells? at h
  split at h
  · obtain ⟨h1, h2⟩ := mapM_at h
    simp at h1
    refine ⟨h1.symm, fun j v hj => ?_⟩
    have hlt : j < n := by rw [h1]; exact (List.getElem?_eq_some_iff.1 hj).1
    obtain ⟨y, e1, e2⟩ := h2 j j (by simp [hlt])
    rw [hj] at e1; simp at e1; subst e1; exact e2
  · cases h

/-- a list chosen index by index -/
theorem choose_list {α : Type} {Q : Nat → α → Prop} : ∀ (n : Nat), (∀ j, j < n → ∃ v, Q j v) → ∃ vs : List α, vs.length = n ∧ ∀ (j : Nat) (v : α), vs[j]? = some v → Q j v
  | 0, _ => ⟨[], rfl, by simp⟩
  | n + 1, h => by
    obtain ⟨vs, hl, hv⟩ := choose_list n (fun j hj => h j (by omega))
    obtain ⟨v, hq⟩ := h n (by omega)
    refine ⟨vs ++ [v], by simp [hl], fun j u hu => ?_⟩
    by_cases hj : j < vs.length
    · rw [List.getElem?_append_left hj] at hu; exact hv j u hu
    · rw [List.getElem?_append_right (by omega)] at hu
      by_cases e : j = n
      · subst e; rw [hl] at hu; simp at hu; subst hu; exact hq
      · rw [List.getElem?_eq_none (by simp; omega)] at hu; cases hu

section
variable {H : Type} {enc : TypeId × Value → H} {P : Program} {w : World} {sp : Nat → Bool} {held : Bool} {S : List TypeId}

theorem weightsAll_of {e : TypeId} {r : Nat → Bool} : ∀ (l : List (DataW H)), (DataW.weightsAll P e l).all r = true → ∀ d ∈ l, (d.weights P e).all r = true
  | [], _, d, h => by cases h
  | x :: l, h, d, hd => by
    simp only [DataW.weightsAll, List.all_append, Bool.and_eq_true] at h
    cases hd with
    | head => exact h.1
    | tail _ hd => exact weightsAll_of l h.2 d hd
theorem weightsEach_of {r : Nat → Bool} : ∀ (ts : List TypeId) (l : List (DataW H)), (DataW.weightsEach P ts l).all r = true → ∀ (j : Nat) t d, ts[j]? = some t → l[j]? = some d → (d.weights P t).all r = true
  | [], l, _, j, t, d, h, _ => by simp at h
  | t :: ts, [], _, j, t', d, _, h => by simp at h
  | t :: ts, x :: l, h, j, t', d, h1, h2 => by
    simp only [DataW.weightsEach, List.all_append, Bool.and_eq_true] at h
    cases j with
    | zero => simp at h1 h2; subst h1; subst h2; exact h.1
    | succ j => exact weightsEach_of ts l h.2 j t' d (by simpa using h1) (by simpa using h2)
/-- an argument as an abstract value -/
def argV (P : Program) (t : TypeId) (ts : List T) : V := if isAggT P t then .agg (ts.map V.t) else .t (ts.headD .nilp)

/-- the world that a law is called in -/
def L.all (w : World) : L := { lab := allFix, fro := fun _ => 0, nxt := 0, w := w }

theorem RelS.all (w : World) : RelS (L.all w) ⟨[], 0⟩ := ⟨by simp [aget], fun b b' k h => by simp [L.all] at h, fun _ _ => rfl, fun b k h => by simp [L.all] at h, fun _ _ => rfl⟩

/-- arguments one by one -/
inductive WTs (P : Program) : List TypeId → List V → Prop
  | nil : WTs P [] []
  | cons {t : TypeId} {ts : List TypeId} {n : Nat} {xs : List T} {vs : List V} (h : WT P n t xs) (r : WTs P ts vs) : WTs P (t :: ts) (argV P t xs :: vs)

theorem trodAll_stays (hl : laidOutB P = true) {W W' : World} (hb : Below W.heap.size W W') {sp' : Nat → Bool} : ∀ (ts : List TypeId) (vs : List Value) (ds : List (DataW H)) (ps : List MemPlace), (∀ t ∈ ts, P.readableRec t = true ∧ t < P.types.size) → DataW.TrodAll enc P W 0 (fun _ => true) true ts vs ds ps →
    (∀ p ∈ ps, p.block < W.heap.size) → (∀ p ∈ ps, sp' p.block = true) → DataW.TrodAll enc P W' 0 sp' true ts vs ds ps
  | [], [], [], _, _, h, _, _ => h
  | t :: ts, v :: vs, d :: ds, _, hT, ⟨p, q, h1, h2, e⟩, hlt, hs => by
    subst e
    refine ⟨p, q, WideElems.Trod_stays hl (hT t (by simp)).1 (hT t (by simp)).2 h1 (fun x hx => hb.same (hlt x (List.mem_append_left _ hx))) (fun x hx => hs x (List.mem_append_left _ hx)), ?_, rfl⟩
    exact trodAll_stays hl hb ts vs ds q (fun t ht => hT t (List.mem_cons_of_mem _ ht)) h2 (fun x hx => hlt x (List.mem_append_right _ hx)) (fun x hx => hs x (List.mem_append_right _ hx))
  | [], _ :: _, _, _, _, h, _, _ => by simp [DataW.TrodAll] at h
  | [], [], _ :: _, _, _, h, _, _ => by simp [DataW.TrodAll] at h
  | _ :: _, [], _, _, _, h, _, _ => by simp [DataW.TrodAll] at h
  | _ :: _, _ :: _, [], _, _, h, _, _ => by simp [DataW.TrodAll] at h

end

section
variable {H : Type} {enc : TypeId × Value → H} {P : Program}
theorem post_of_below {f : Func} {s : ChangeSpec} {apart fresh handsOn again : Bool} {W W' : World} {args : Array Value} {v : Value} {ds gs : List (DataW H)} {before pa pv : List MemPlace}
    (hW : DataW.Whole enc P f.params.toList s.vars apart W args.toList ds gs before)
    (hres : ∀ (b : Nat) (sp : Nat → Bool) (hd : Bool), DataW.TrodAll enc P W' b sp hd f.resultTypes.toList (v.resultList f.resultTypes.size) (s.fn H (ds ++ gs)).results [])
    (hargs : ∀ sp : Nat → Bool, (∀ p ∈ before, sp p.block = true) → DataW.TrodAll enc P W' 0 sp true f.params.toList args.toList (s.fn H (ds ++ gs)).args pa)
    (hvars : ∀ sp : Nat → Bool, (∀ p ∈ before, sp p.block = true) → DataW.TrodVars enc P W' sp s.vars (s.fn H (ds ++ gs)).vars pv)
    (hps : before = pa ++ pv) (hb : Below W.heap.size W W')
    (hok : ∀ (j : Nat) (t : TypeId) (r : Value), f.resultTypes[j]? = some t → (v.resultList f.resultTypes.size)[j]? = some r → Value.okWide P W' .any 0 t r) :
    s.post enc P f apart fresh handsOn again W args v W' := by
  have hlt : ∀ p ∈ before, p.block < W.heap.size := fun p hp => hW.lt p hp
  have hold : ∀ p ∈ before, (fun b => decide (b < W.heap.size)) p.block = true := fun p hp => by simpa using hlt p hp
  refine ⟨ds, gs, before, [], pa, pv, hW, hres _ _ _, hargs _ hold, hvars _ hold, World.keptBut_mono (fun p hp => ⟨hp, ?_⟩) (hb.frame (· ∈ before)), fun _ => ?_⟩
  · rw [hps, List.mem_append] at hp
    exact Or.inr hp
  · obtain ⟨_, _, _, _, _, hz, hn⟩ := hW
    refine ⟨hok, _, _, ([] ++ pa) ++ pv, ⟨[] ++ pa, pv, trodAll_append (hargs _ (fun _ _ => rfl)) (hres _ _ _), hvars _ (fun _ _ => rfl), rfl, ?_, ?_⟩, ?_⟩
    · intro b off hp
      have hin : MemPlace.cell b off ∈ before := by rw [hps]; simpa using hp
      rw [hb.frozen (hlt _ hin)]
      exact hz b off hin
    · intro ha
      have := hn ha
      rw [hps] at this
      simpa using this
    · intro p hp _
      rw [hps]
      simpa using hp

end
end Go.GB


/-
  GbZA: shapes of plain types: what a law is handed, taken apart.
-/
namespace Go.GB
open Go.RowKit Go.WideShapes Go.ChangeShapes

inductive Sh where
  | bool
  | int (k : IntKind)
  | str
  | lst (b : Nat) (s : List Sh)
  | any
  | num (i : Nat)

/-- fields side by side -/
def joinSh (P : Program) (g : TypeId → Option (List Sh)) : Nat → List (Nat × TypeId) → Option (List Sh)
  | _, [] => some []
  | off, (o, t) :: r =>
    if o = off then
      match g t with
      | some a => if a.length = P.cellsOf t then (joinSh P g (off + P.cellsOf t) r).map fun b => a ++ b else none
      | none => none
    else none

def shOf (P : Program) (sp : TypeId → Option Nat) : Nat → TypeId → Option (List Sh)
  | 0, t =>
    match P.underlying t with
    | some .bool => some [.bool]
    | some (.int k) => some [.int k]
    | some .string => some [.str]
    | some (.slice e) => match sp e with | some i => some [.num i] | none => some [.any]
    | _ => none
  | n + 1, t =>
    match P.underlying t with
    | some .bool => some [.bool]
    | some (.int k) => some [.int k]
    | some .string => some [.str]
    | some (.slice e) => match sp e with | some i => some [.num i] | none => (shOf P sp n e).map fun s => [.lst (P.bytesOf e) s]
    | some (.struct fs) => (joinSh P (shOf P sp n) 0 (fs.toList.map fun f => (f.offset, f.type))).bind fun s => if s.length = P.cellsOf t then some s else none
    | some (.array m e) => (joinSh P (shOf P sp n) 0 ((List.range m).map fun i => (i * P.cellsOf e, e))).bind fun s => if s.length = P.cellsOf t then some s else none
    | _ => none

mutual
/-- a tree of that shape; numbers stand for lists of types that contain themselves -/
def Sh.ok (Y : Nat → T → Prop) : Sh → T → Prop
  | .bool, x => ∃ b, x = .bool b
  | .int k, x => ∃ n, x = .int k n ∧ (Lit.int k n).wf = true
  | .str, x => ∃ s, x = .str s ∧ s.length ≤ reachBytes
  | .lst b sh, x => ∃ xs : List (List T), x = .lst xs ∧ xs.length * b ≤ reachBytes ∧ xs.length ≤ maxLen ∧ ∀ c ∈ xs, Sh.oks Y sh c
  | .any, _ => True
  | .num i, x => Y i x
def Sh.oks (Y : Nat → T → Prop) : List Sh → List T → Prop
  | [], [] => True
  | s :: r, x :: ts => s.ok Y x ∧ Sh.oks Y r ts
  | _, _ => False
end

theorem Sh.oks_append {Y : Nat → T → Prop} : ∀ {a b : List Sh} {ts us : List T}, Sh.oks Y a ts → Sh.oks Y b us → Sh.oks Y (a ++ b) (ts ++ us)
  | [], b, [], us, _, h => h
  | [], b, x :: ts, us, h, _ => by simp [Sh.oks] at h
  | s :: r, b, [], us, h, _ => by simp [Sh.oks] at h
  | s :: r, b, x :: ts, us, h, k => by
    simp only [Sh.oks, List.cons_append] at h ⊢
    exact ⟨h.1, Sh.oks_append h.2 k⟩
theorem joinSh_ok {P : Program} {Y : Nat → T → Prop} {g : TypeId → Option (List Sh)} {n : Nat} (hg : ∀ t sh ts, g t = some sh → WT P n t ts → Sh.oks Y sh ts) : ∀ (l : List (Nat × TypeId)) (off : Nat) (sh : List Sh) (ts : List T), joinSh P g off l = some sh → (∀ p ∈ l, WT P n p.2 ((ts.drop p.1).take (P.cellsOf p.2))) →
    ∃ us, Sh.oks Y sh us ∧ us = (ts.drop off).take sh.length
  | [], off, sh, ts, h, _ => by simp [joinSh] at h; subst h; exact ⟨[], trivial, by simp⟩
  | (o, t) :: r, off, sh, ts, h, hp => by
    simp only [joinSh] at h
    split at h
    · rename_i e; subst e
      split at h
      · rename_i a ha
        split at h
        · rename_i hl
          simp only [Option.map_eq_some_iff] at h
          obtain ⟨b, hb, rfl⟩ := h
          have h1 := hg t a _ ha (hp (o, t) (by simp))
          obtain ⟨us, h2, h3⟩ := joinSh_ok hg r _ b ts hb fun p hpm => hp p (List.mem_cons_of_mem _ hpm)
          refine ⟨_, Sh.oks_append h1 h2, ?_⟩
          simp only at h1 ⊢
          rw [h3, List.length_append, hl, List.take_add, List.drop_drop]
        · cases h
      · cases h
    · cases h

theorem shOf_ok {P : Program} {sp : TypeId → Option Nat} {Y : Nat → T → Prop} : ∀ (n m : Nat) (t : TypeId) (sh : List Sh) (ts : List T), (∀ e i k xs, k < n → sp e = some i → xs.length * P.bytesOf e ≤ reachBytes → xs.length ≤ maxLen → (∀ c ∈ xs, WT P k e c) → Y i (.lst xs)) → shOf P sp m t = some sh → WT P n t ts → Sh.oks Y sh ts
  | 0, m, t, sh, ts, _, _, h => by simp [WT] at h
  | n + 1, 0, t, sh, ts, hsp, hs, h => by
    simp only [shOf] at hs
    simp only [WT] at h
    cases hu : P.underlying t with
    | none => rw [hu] at h; exact h.elim
    | some td =>
      rw [hu] at h hs
      cases td with
      | bool => simp only [Option.some.injEq] at hs h; subst hs; obtain ⟨b, rfl⟩ := h; exact ⟨⟨b, rfl⟩, trivial⟩
      | int k => simp at hs h; subst hs; obtain ⟨x, rfl, hw⟩ := h; exact ⟨⟨x, rfl, hw⟩, trivial⟩
      | string => simp at hs h; subst hs; obtain ⟨s, rfl, hw⟩ := h; exact ⟨⟨s, rfl, hw⟩, trivial⟩
      | slice e =>
        obtain ⟨xs, rfl, hr, hl, hc⟩ := h
        cases he : sp e with
        | none => simp only [he, Option.some.injEq] at hs; subst hs; exact ⟨trivial, trivial⟩
        | some i => simp only [he, Option.some.injEq] at hs; subst hs; exact ⟨hsp e i n xs (by omega) he hr hl hc, trivial⟩
      | _ => simp at hs
  | n + 1, m + 1, t, sh, ts, hsp, hs, h => by
    have hsp' : ∀ e i k xs, k < n → sp e = some i → xs.length * P.bytesOf e ≤ reachBytes → xs.length ≤ maxLen → (∀ c ∈ xs, WT P k e c) → Y i (.lst xs) := fun e i k xs hk => hsp e i k xs (by omega)
    simp only [shOf] at hs
    simp only [WT] at h
    cases hu : P.underlying t with
    | none => rw [hu] at h; exact h.elim
    | some td =>
      rw [hu] at h hs
      cases td with
      | bool => simp only [Option.some.injEq] at hs h; subst hs; obtain ⟨b, rfl⟩ := h; exact ⟨⟨b, rfl⟩, trivial⟩
      | int k => simp at hs h; subst hs; obtain ⟨x, rfl, hw⟩ := h; exact ⟨⟨x, rfl, hw⟩, trivial⟩
      | string => simp at hs h; subst hs; obtain ⟨s, rfl, hw⟩ := h; exact ⟨⟨s, rfl, hw⟩, trivial⟩
      | slice e =>
        obtain ⟨xs, rfl, hr, hl, hc⟩ := h
        cases hse : sp e with
        | none =>
          simp only [hse, Option.map_eq_some_iff] at hs
          obtain ⟨s, he, rfl⟩ := hs
          exact ⟨⟨xs, rfl, hr, hl, fun c hcm => shOf_ok n m e s c hsp' he (hc c hcm)⟩, trivial⟩
        | some i => simp only [hse, Option.some.injEq] at hs; subst hs; exact ⟨hsp e i n xs (by omega) hse hr hl hc, trivial⟩
      | struct fs =>
        simp only [Option.bind_eq_some_iff] at hs h
        obtain ⟨s, hs, hs2⟩ := hs
        split at hs2
        · rename_i hl
          simp at hs2; subst hs2
          obtain ⟨us, h1, h2⟩ := joinSh_ok (ts := ts) (Y := Y) (g := shOf P sp m) (n := n) (fun t sh ts a b => shOf_ok n m t sh ts hsp' a b) _ 0 s hs (fun p hp => by
            rw [List.mem_map] at hp
            obtain ⟨f, hf, rfl⟩ := hp
            exact h.2 f hf)
          rw [List.drop_zero, List.take_of_length_le (by omega)] at h2
          subst h2; exact h1
        · cases hs2
      | array k e =>
        simp only [Option.bind_eq_some_iff] at hs h
        obtain ⟨s, hs, hs2⟩ := hs
        split at hs2
        · rename_i hl
          simp at hs2; subst hs2
          obtain ⟨us, h1, h2⟩ := joinSh_ok (ts := ts) (Y := Y) (g := shOf P sp m) (n := n) (fun t sh ts a b => shOf_ok n m t sh ts hsp' a b) _ 0 s hs (fun p hp => by
            rw [List.mem_map] at hp
            obtain ⟨i, hi, rfl⟩ := hp
            exact h.2 i (List.mem_range.1 hi))
          rw [List.drop_zero, List.take_of_length_le (by omega)] at h2
          subst h2; exact h1
        · cases hs2
      | _ => simp at h

/-- trees one by one -/
theorem Sh.oks_cons {Y : Nat → T → Prop} {s : Sh} {r : List Sh} {ts : List T} (h : Sh.oks Y (s :: r) ts) : ∃ x ts', ts = x :: ts' ∧ s.ok Y x ∧ Sh.oks Y r ts' := by
  cases ts with
  | nil => simp [Sh.oks] at h
  | cons x ts => exact ⟨x, ts, rfl, h⟩
theorem Sh.oks_nil {Y : Nat → T → Prop} {ts : List T} (h : Sh.oks Y [] ts) : ts = [] := by
  cases ts with
  | nil => rfl
  | cons x ts => simp [Sh.oks] at h

/-- a list whose elements are encodings -/
theorem choose_map {α : Type} {f : α → List T} {Q : α → Prop} : ∀ (xs : List (List T)), (∀ c ∈ xs, ∃ a, c = f a ∧ Q a) → ∃ l : List α, xs = l.map f ∧ ∀ a ∈ l, Q a
  | [], _ => ⟨[], rfl, by simp⟩
  | c :: xs, h => by
    obtain ⟨l, h1, h2⟩ := choose_map xs (fun c hc => h c (List.mem_cons_of_mem _ hc))
    obtain ⟨a, rfl, ha⟩ := h c (by simp)
    exact ⟨a :: l, by simp [h1], fun b hb => by
      rcases List.mem_cons.1 hb with e | e
      · subst e; exact ha
      · exact h2 b e⟩

theorem WTs.cons_inv {P : Program} {t : TypeId} {ts : List TypeId} {vs : List V} (h : WTs P (t :: ts) vs) {m : Nat} {sh : List Sh} {sp : TypeId → Option Nat} {Y : Nat → T → Prop} (hsp : ∀ e i n xs, sp e = some i → xs.length * P.bytesOf e ≤ reachBytes → xs.length ≤ maxLen → (∀ c ∈ xs, WT P n e c) → Y i (.lst xs)) (hs : shOf P sp m t = some sh) : ∃ xs r, vs = argV P t xs :: r ∧ Sh.oks Y sh xs ∧ WTs P ts r := by
  cases h with
  | cons h r => exact ⟨_, _, rfl, shOf_ok _ _ _ _ _ (fun e i k xs _ => hsp e i k xs) hs h, r⟩
theorem WTs.nil_inv {P : Program} {vs : List V} (h : WTs P [] vs) : vs = [] := by
  cases h; rfl
theorem argV_one {P : Program} {t : TypeId} (h : isAggT P t = false) (x : T) : argV P t [x] = .t x := by simp [argV, h]

theorem len1 {α : Type} {l : List α} (h : l.length = 1) : ∃ a, l = [a] := by
  match l, h with
  | [a], _ => exact ⟨a, rfl⟩
end Go.GB


/-
  GbBk: what a law is handed, with its bulk: values and letters, each counted each time it is reached.
-/
namespace Go.GB
open Go.RowKit Go.WideShapes Go.ChangeShapes

mutual
def T.bulk : T → Nat
  | .str s => s.length + 1
  | .lst xs => bulkLL xs + 1
  | .bool _ => 1
  | .int _ _ => 1
  | .ptr _ => 1
  | .fn _ => 1
  | .nilp => 1
  | .nilm => 1
  | .nilf => 1
def bulkLL : List (List T) → Nat
  | [] => 0
  | c :: r => bulkL c + bulkLL r
def bulkL : List T → Nat
  | [] => 0
  | x :: r => x.bulk + bulkL r
end
theorem bulkL_append : ∀ (a b : List T), bulkL (a ++ b) = bulkL a + bulkL b
  | [], b => by simp [bulkL]
  | x :: r, b => by simp only [List.cons_append, bulkL, bulkL_append r b]; omega

/-- a measure of readings that counts values and letters -/
structure Bulk {H : Type} (B : DataW H → Nat) : Prop where
  lit : ∀ l, 1 ≤ B (.lit l)
  str : ∀ bs, bs.length + 1 ≤ B (.lit (.string bs))
  nil : 1 ≤ B .nil
  slice : ∀ e s, (e.map B).sum + 1 ≤ B (.slice e s)
  agg : ∀ ps, (ps.map B).sum ≤ B (.agg ps)

theorem bulkLL_le {H : Type} {B : DataW H → Nat} : ∀ (xs : List (List T)) (es : List (DataW H)), xs.length = es.length → (∀ (i : Nat) c e, xs[i]? = some c → es[i]? = some e → bulkL c ≤ B e) → bulkLL xs ≤ (es.map B).sum
  | [], [], _, _ => by simp [bulkLL]
  | [], _ :: _, h, _ => by simp at h
  | _ :: _, [], h, _ => by simp at h
  | c :: xs, e :: es, h, hb => by
    have h1 := hb 0 c e rfl rfl
    have h2 := bulkLL_le xs es (by simpa using h) (fun i c e a b => hb (i + 1) c e (by simpa using a) (by simpa using b))
    simp only [bulkLL, List.map_cons, List.sum_cons]; omega

theorem pieces2 {P : Program} {w : World} {n : Nat} {cs : List Value} : ∀ (l : List (Nat × TypeId)) (bs : List Nat) (off tot : Nat), consec P off l = some tot → tot ≤ cs.length → l.length = bs.length → (∀ (j : Nat) p nb, l[j]? = some p → bs[j]? = some nb → ∃ ts, RepL w ((cs.drop p.1).take (P.cellsOf p.2)) ts ∧ WT P n p.2 ts ∧ bulkL ts ≤ nb) →
    off ≤ tot ∧ ∃ ts : List T, ts.length = tot - off ∧ (∀ (j : Nat) (v : Value) (x : T), cs[off + j]? = some v → ts[j]? = some x → RepT allFix w v x) ∧ (∀ p ∈ l, off ≤ p.1 ∧ WT P n p.2 ((ts.drop (p.1 - off)).take (P.cellsOf p.2))) ∧ bulkL ts ≤ bs.sum
  | [], bs, off, tot, hc, _, _, _ => by simp [consec] at hc; subst hc; exact ⟨Nat.le_refl _, [], by simp, by simp, by simp, by simp [bulkL]⟩
  | _ :: _, [], _, _, _, _, h, _ => by simp at h
  | (o, t) :: r, nb :: bs, off, tot, hc, hl, hlen, hp => by
    simp only [consec] at hc
    split at hc
    · rename_i e; subst e
      obtain ⟨h1, ts, h2, h3, h4, h5⟩ := pieces2 r bs (o + P.cellsOf t) tot hc hl (by simpa using hlen) (fun j p nb a b => hp (j + 1) p nb (by simpa using a) (by simpa using b))
      obtain ⟨us, k1, k2, k3⟩ := hp 0 (o, t) nb rfl rfl
      have hul : us.length = P.cellsOf t := by rw [← k1.1]; simp; omega
      refine ⟨by omega, us ++ ts, by simp [hul, h2]; omega, fun j v x hv hx => ?_, fun p hpm => ?_, by rw [bulkL_append]; simp only [List.sum_cons]; omega⟩
      · by_cases hj : j < us.length
        · rw [List.getElem?_append_left hj] at hx
          refine k1.2 j v x ?_ hx
          simp only
          rw [List.getElem?_take, if_pos (by omega), List.getElem?_drop]; exact hv
        · rw [List.getElem?_append_right (by omega)] at hx
          refine h3 (j - us.length) v x ?_ hx
          have : o + P.cellsOf t + (j - us.length) = o + j := by omega
          rw [this]; exact hv
      · rcases List.mem_cons.1 hpm with e | e
        · subst e
          refine ⟨Nat.le_refl _, ?_⟩
          simp only [Nat.sub_self, List.drop_zero]
          rw [List.take_append_of_le_length (by omega), List.take_of_length_le (by omega)]
          exact k2
        · obtain ⟨g1, g2⟩ := h4 p e
          refine ⟨by omega, ?_⟩
          have : p.1 - o = us.length + (p.1 - (o + P.cellsOf t)) := by omega
          rw [this, List.drop_append, List.drop_eq_nil_of_le (by omega)]
          simpa using g2
    · cases hc

section
variable {H : Type} {enc : TypeId × Value → H} {P : Program} {w : World} {sp : Nat → Bool} {held : Bool} {S : List TypeId} {B : DataW H → Nat}

theorem trod_repB (hB : Bulk B) (hp : plainT P S = true) : ∀ (n : Nat) (t : TypeId) (cs : List Value) (d : DataW H) (ps : List MemPlace), t ∈ S → DataW.trod enc P w 0 sp held n t cs = some (d, ps) → (d.weights P t).all (· ≤ reachBytes) = true → ∃ ts, RepL w cs ts ∧ WT P n t ts ∧ bulkL ts ≤ B d
  | 0, t, cs, d, ps, _, h, _ => by simp [DataW.trod] at h
  | n + 1, t, cs, d, ps, ht, h, hwt => by
    have hpt := List.all_eq_true.1 hp t ht
    simp only [WT]
    cases hu : P.underlying t with
    | none => rw [hu] at hpt; simp at hpt
    | some td =>
      rw [hu] at hpt
      cases td with
      | bool =>
        rcases cs with _ | ⟨v, _ | ⟨v2, r⟩⟩ <;> try (simp [DataW.trod, hu] at h; done)
        cases v <;> simp [DataW.trod, hu] at h
        rename_i b
        refine ⟨[.bool b], RepL.one (.bool b), ⟨b, rfl⟩, ?_⟩
        rw [← h.1]; simpa [bulkL, T.bulk] using hB.lit _
      | int k =>
        rcases cs with _ | ⟨v, _ | ⟨v2, r⟩⟩ <;> try (simp [DataW.trod, hu] at h; done)
        cases v <;> simp [DataW.trod, hu] at h
        rename_i k' x
        obtain ⟨⟨rfl, h2⟩, hd, _⟩ := h
        refine ⟨[.int k' x], RepL.one (.int _ _), ⟨x, rfl, h2⟩, ?_⟩
        rw [← hd]; simpa [bulkL, T.bulk] using hB.lit _
      | string =>
        rcases cs with _ | ⟨v, _ | ⟨v2, r⟩⟩ <;> try (simp [DataW.trod, hu] at h; done)
        cases v <;> simp [DataW.trod, hu] at h
        rename_i s
        rw [← h.2.1] at hwt
        refine ⟨[.str s.data.toList], RepL.one (.str _), ⟨s.data.toList, rfl, by simpa [DataW.weights] using hwt⟩, ?_⟩
        have := hB.str s.data.toList
        rw [← h.2.1]
        simp only [bulkL, T.bulk]; omega
      | slice e =>
        simp only [Bool.and_eq_true, decide_eq_true_eq] at hpt
        have he : e ∈ S := by simpa using hpt.1
        rcases cs with _ | ⟨v, _ | ⟨v2, r⟩⟩ <;> try (simp [DataW.trod, hu] at h; done)
        cases v <;> try (simp [DataW.trod, hu] at h; done)
        rename_i a len cap
        cases a with
        | none =>
          have h0 : len = 0 ∧ cap = 0 := by
            cases len <;> cases cap <;> simp_all [DataW.trod]
          obtain ⟨rfl, rfl⟩ := h0
          have hd : DataW.nil = d := by
            simp only [DataW.trod, hu] at h
            simp at h; exact h.1
          refine ⟨[.lst []], RepL.one .nil, ⟨[], rfl, by simp, by simp, by simp⟩, ?_⟩
          rw [← hd]
          simpa [bulkL, bulkLL, T.bulk] using hB.nil
        | some a =>
          simp only [DataW.trod, hu] at h
          split at h
          · rename_i hcond
            simp only [Option.bind_eq_some_iff] at h
            obtain ⟨elems, hel, hrest⟩ := h
            obtain ⟨hl, hat⟩ := mapM_at hel
            simp at hl
            rw [Option.map_eq_some_iff] at hrest
            obtain ⟨rest, _, hde⟩ := hrest
            simp only [Prod.mk.injEq] at hde
            rw [← hde.1] at hwt
            simp only [DataW.weights, hu, List.all_cons, List.all_append, Bool.and_eq_true, decide_eq_true_eq, List.length_map] at hwt
            have hreach : len * P.bytesOf e ≤ reachBytes := by
              rw [hl]
              exact Nat.le_trans (Nat.mul_le_mul_right _ (Nat.le_add_right _ _)) hwt.1
            have hone : ∀ i, i < len → ∃ q : List Value × List T, w.cells? 0 (a.add (i * P.cellsOf e)) (P.cellsOf e) = some q.1 ∧ RepL w q.1 q.2 ∧ WT P n e q.2 ∧ ∀ y, elems[i]? = some y → bulkL q.2 ≤ B y.1 := by
              intro i hi
              obtain ⟨y, hye, hy⟩ := hat i i (by simp [hi])
              simp only [Option.bind_eq_some_iff] at hy
              obtain ⟨c, hc, hy⟩ := hy
              obtain ⟨d', ps'⟩ := y
              obtain ⟨ts, k1, k2, k3⟩ := trod_repB hB hp n e c d' ps' he hy (weightsAll_of _ hwt.2.1 _ (List.mem_map.2 ⟨(d', ps'), List.mem_of_getElem? hye, rfl⟩))
              exact ⟨(c, ts), hc, k1, k2, fun y h => by rw [hye] at h; simp at h; subst h; exact k3⟩
            obtain ⟨qs, hql, hq⟩ := choose_list len hone
            have hsz : ∀ (i : Nat) (q : List Value × List T), qs[i]? = some q → q.1.length = P.cellsOf e ∧ q.2.length = P.cellsOf e := by
              intro i q hi
              obtain ⟨h1, h2, _⟩ := hq i q hi
              have := (cells?_at h1).1
              exact ⟨this, by rw [← h2.1]; exact this⟩
            -- the address has no spot, where anything is read
            have hspot : 0 < len → a.spot = none := by
              intro h0
              have hq0 : qs[0]? = some (qs[0]'(by omega)) := by simp
              obtain ⟨h1, _, _⟩ := hq 0 _ hq0
              obtain ⟨e1, e2⟩ := cells?_at h1
              have hlt : 0 < (qs[0]'(by omega)).1.length := by rw [(hsz 0 _ hq0).1]; exact hpt.2
              have := spot_none (e2 0 _ (List.getElem?_eq_getElem hlt))
              simpa [Addr.add] using this
            have hadd : ∀ m, 0 < len → a.add m = ⟨a.block, a.off + m, none⟩ := by
              intro m h0
              have hs := hspot h0
              obtain ⟨b, o, s⟩ := a
              simp at hs; subst hs
              exact add_mk b o m
            refine ⟨[.lst (qs.map (·.2))], RepL.one ?_, ⟨qs.map (·.2), rfl, by simpa [hql] using hreach, by simp [hql]; omega, fun c hc => ?_⟩, ?_⟩
            · have hlen : len = (qs.map (·.2)).length := by simp [hql]
              rw [hlen]
              refine .lst (some a) cap (P.cellsOf e) (qs.map (·.2)) a.block a.off (fun i j => ((qs.map (·.1)).getD i []).getD j undef) (by rw [← hlen]; exact hcond.2.1) ?_ ?_ ?_ ?_ ?_
              · intro i c hc
                rw [List.getElem?_map, Option.map_eq_some_iff] at hc
                obtain ⟨q, h1, rfl⟩ := hc
                exact (hsz i q h1).2
              · intro i j c x hc hx
                have h0 : 0 < len := by have := (List.getElem?_eq_some_iff.1 hc).1; simp [hql] at this; omega
                have hs := hspot h0
                obtain ⟨b, o, s⟩ := a
                simp at hs; subst hs; rfl
              · intro i j c x hc hx; trivial
              · intro i j c x hc hx
                rw [List.getElem?_map, Option.map_eq_some_iff] at hc
                obtain ⟨q, h1, rfl⟩ := hc
                have h0 : 0 < len := by have := (List.getElem?_eq_some_iff.1 h1).1; omega
                obtain ⟨g1, g2, _⟩ := hq i q h1
                obtain ⟨e1, e2⟩ := cells?_at g1
                have hj : j < q.1.length := by rw [g2.1]; exact (List.getElem?_eq_some_iff.1 hx).1
                have := e2 j _ (List.getElem?_eq_getElem hj)
                rw [hadd _ h0] at this
                rw [add_mk] at this
                rw [this]
                simp [h1, hj]
              · intro i j c x hc hx
                rw [List.getElem?_map, Option.map_eq_some_iff] at hc
                obtain ⟨q, h1, rfl⟩ := hc
                obtain ⟨g1, g2, _⟩ := hq i q h1
                have hj : j < q.1.length := by rw [g2.1]; exact (List.getElem?_eq_some_iff.1 hx).1
                have := g2.2 j _ x (List.getElem?_eq_getElem hj) hx
                simpa [h1, hj] using this
            · rw [List.mem_map] at hc
              obtain ⟨q, h1, rfl⟩ := hc
              obtain ⟨i, hi⟩ := List.mem_iff_getElem?.1 h1
              exact (hq i q hi).2.2.1
            · rw [← hde.1]
              have h1 := hB.slice (elems.map (·.1)) (rest.map (·.1))
              have h2 := bulkLL_le (B := B) (qs.map (·.2)) (elems.map (·.1)) (by simp [hql, hl]) (fun i c e a b => by
                rw [List.getElem?_map, Option.map_eq_some_iff] at a b
                obtain ⟨q, a1, rfl⟩ := a
                obtain ⟨y, b1, rfl⟩ := b
                exact (hq i q a1).2.2.2 y b1)
              simp only [bulkL, T.bulk]; omega
          · cases h
      | struct fs =>
        simp only [Bool.and_eq_true, List.all_eq_true, beq_iff_eq] at hpt
        have hh : cs.length = P.cellsOf t ∧ ∃ xs, (fs.toList.mapM fun f => DataW.trod enc P w 0 sp held n f.type ((cs.drop f.offset).take (P.cellsOf f.type))) = some xs ∧ d = .agg (xs.map (·.1)) := by
          have h' := h
          simp only [DataW.trod, hu] at h'
          split at h'
          · rename_i hc
            simp only [Option.map_eq_some_iff] at h'
            obtain ⟨xs, hxs, hd⟩ := h'
            exact ⟨hc, xs, hxs, by simp only [Prod.mk.injEq] at hd; exact hd.1.symm⟩
          · cases h'
        obtain ⟨hlen, xs, hxs, rfl⟩ := hh
        obtain ⟨hl, hat⟩ := mapM_at hxs
        simp only [DataW.weights, hu] at hwt
        obtain ⟨_, ts, g1, g2, g3, g4⟩ := pieces2 (n := n) (w := w) (cs := cs) _ ((xs.map (·.1)).map B) 0 _ hpt.2 (by omega) (by simp [hl]) (fun j p nb hpm hnb => by
          rw [List.getElem?_map, Option.map_eq_some_iff] at hpm
          obtain ⟨f, hj, rfl⟩ := hpm
          have hf := List.mem_of_getElem? hj
          obtain ⟨y, hye, hy⟩ := hat j f hj
          obtain ⟨d', ps'⟩ := y
          rw [List.getElem?_map, List.getElem?_map, hye] at hnb
          simp at hnb; subst hnb
          exact trod_repB hB hp n f.type _ d' ps' (by simpa using hpt.1 f hf) hy (weightsEach_of _ _ hwt j f.type d' (by simp [hj]) (by simp [hye])))
        refine ⟨ts, ⟨by omega, fun j v x hv hx => g2 j v x (by simpa using hv) hx⟩, ⟨by omega, fun f hf => ?_⟩, Nat.le_trans g4 (hB.agg _)⟩
        have := (g3 (f.offset, f.type) (List.mem_map.2 ⟨f, hf, rfl⟩)).2
        simpa using this
      | array m e =>
        simp only [Bool.and_eq_true, beq_iff_eq] at hpt
        have hh : cs.length = P.cellsOf t ∧ ∃ xs, ((List.range m).mapM fun i => DataW.trod enc P w 0 sp held n e ((cs.drop (i * P.cellsOf e)).take (P.cellsOf e))) = some xs ∧ d = .agg (xs.map (·.1)) := by
          have h' := h
          simp only [DataW.trod, hu] at h'
          split at h'
          · rename_i hc
            simp only [Option.map_eq_some_iff] at h'
            obtain ⟨xs, hxs, hd⟩ := h'
            exact ⟨hc, xs, hxs, by simp only [Prod.mk.injEq] at hd; exact hd.1.symm⟩
          · cases h'
        obtain ⟨hlen, xs, hxs, rfl⟩ := hh
        obtain ⟨hl, hat⟩ := mapM_at hxs
        simp only [DataW.weights, hu] at hwt
        obtain ⟨_, ts, g1, g2, g3, g4⟩ := pieces2 (n := n) (w := w) (cs := cs) _ ((xs.map (·.1)).map B) 0 _ hpt.2 (by omega) (by simp [← hl]) (fun j p nb hpm hnb => by
          rw [List.getElem?_map, Option.map_eq_some_iff] at hpm
          obtain ⟨i, hj, rfl⟩ := hpm
          obtain ⟨y, hye, hy⟩ := hat j i hj
          obtain ⟨d', ps'⟩ := y
          rw [List.getElem?_map, List.getElem?_map, hye] at hnb
          simp at hnb; subst hnb
          exact trod_repB hB hp n e _ d' ps' (by simpa using hpt.1) hy (weightsAll_of _ hwt _ (List.mem_map.2 ⟨(d', ps'), List.mem_of_getElem? hye, rfl⟩)))
        refine ⟨ts, ⟨by omega, fun j v x hv hx => g2 j v x (by simpa using hv) hx⟩, ⟨by omega, fun i hi => ?_⟩, Nat.le_trans g4 (hB.agg _)⟩
        have := (g3 (i * P.cellsOf e, e) (List.mem_map.2 ⟨i, List.mem_range.2 hi, rfl⟩)).2
        simpa using this
      | _ => simp at hpt

def vbs : List V → Nat
  | [] => 0
  | .t x :: r => x.bulk + vbs r
  | _ :: r => vbs r
def vb : V → Nat
  | .t x => x.bulk
  | .agg cs => vbs cs
  | _ => 0
theorem vbs_map : ∀ (ts : List T), vbs (ts.map V.t) = bulkL ts
  | [] => rfl
  | x :: r => by simp only [List.map_cons, vbs, bulkL, vbs_map r]
theorem arg_relB (hB : Bulk B) (hp : plainT P S = true) {base : Nat} {t : TypeId} {v : Value} {d : DataW H} {ps : List MemPlace} (ht : t ∈ S) (hok : Value.okWide P w .any base t v) (h : DataW.Trod enc P w 0 sp held t v d ps) (hwt : (d.weights P t).all (· ≤ reachBytes) = true) :
    ∃ n ts, WT P n t ts ∧ RelV (L.all w) v (argV P t ts) ∧ vb (argV P t ts) ≤ B d := by
  obtain ⟨n, hn⟩ := h
  obtain ⟨ts, h1, h2, hbk⟩ := trod_repB hB hp n t _ d ps ht hn hwt
  refine ⟨n, ts, h2, ?_⟩
  have hpt := List.all_eq_true.1 hp t ht
  unfold argV
  by_cases hag : isAggT P t = true
  · simp only [hag, if_true]
    have : ∃ cs, v = .agg cs := by
      unfold isAggT at hag
      unfold Value.okWide at hok
      cases hu : P.underlying t with
      | none => rw [hu] at hag; simp at hag
      | some td => rw [hu] at hag hok; cases td <;> simp at hag <;> exact ⟨_, hok.choose_spec.1⟩
    obtain ⟨cs, rfl⟩ := this
    refine ⟨.agg (by simpa [Value.cells] using h1.1) fun j u c hj hc => ?_, by simpa [vb, vbs_map] using hbk⟩
    rw [List.getElem?_map, Option.map_eq_some_iff] at hc
    obtain ⟨x, hx, rfl⟩ := hc
    exact .t (h1.2 j u x (by simpa [Value.cells] using hj) hx)
  · simp only [hag, if_false, Bool.false_eq_true]
    have hcells : v.cells = #[v] := by
      unfold isAggT at hag
      unfold Value.okWide at hok
      cases hu : P.underlying t with
      | none => rw [hu] at hpt; simp at hpt
      | some td =>
        rw [hu] at hag hok hpt
        cases td <;> simp at hag hpt <;> simp only [Cell.okWide, Cell.ok, hu] at hok <;> cases v <;> first | rfl | (exact hok.elim)
    have hcl : ts.length = 1 := by rw [← h1.1, hcells]; rfl
    obtain ⟨x, rfl⟩ : ∃ x, ts = [x] := by
      match ts, hcl with
      | [x], _ => exact ⟨x, rfl⟩
    exact ⟨.t (h1.2 0 v x (by rw [hcells]; rfl) rfl), by simpa [vb, bulkL] using hbk⟩

theorem args_relB (hB : Bulk B) (hp : plainT P S = true) {base : Nat} : ∀ (ts : List TypeId) (args : List Value) (ds : List (DataW H)) (ps : List MemPlace), (∀ t ∈ ts, t ∈ S) → (∀ (j : Nat) t v, ts[j]? = some t → args[j]? = some v → Value.okWide P w .any base t v) →
    DataW.TrodAll enc P w 0 sp held ts args ds ps → (DataW.weightsEach P ts ds).all (· ≤ reachBytes) = true → ∃ vs, WTs P ts vs ∧ args.length = vs.length ∧ (vs.map vb).sum ≤ (ds.map B).sum ∧ ∀ (j : Nat) (v : Value) (x : V), args[j]? = some v → vs[j]? = some x → RelV (L.all w) v x
  | [], [], [], ps, _, _, _, _ => ⟨[], .nil, rfl, by simp, by simp⟩
  | t :: ts, v :: args, d :: ds, ps, hS, hok, ⟨p, q, h1, h2, _⟩, hwt => by
    simp only [DataW.weightsEach, List.all_append, Bool.and_eq_true] at hwt
    obtain ⟨vs, k1, k2, k4, k3⟩ := args_relB hB hp ts args ds q (fun t ht => hS t (List.mem_cons_of_mem _ ht)) (fun j t v a b => hok (j + 1) t v (by simpa using a) (by simpa using b)) h2 hwt.2
    obtain ⟨n, xs, g1, g2, g3⟩ := arg_relB hB hp (hS t (by simp)) (hok 0 t v rfl rfl) h1 hwt.1
    refine ⟨argV P t xs :: vs, .cons g1 k1, by simp [k2], by simp only [List.map_cons, List.sum_cons]; omega, fun j u x hu hx => ?_⟩
    cases j with
    | zero => simp at hu hx; subst hu; subst hx; exact g2
    | succ j => exact k3 j u x (by simpa using hu) (by simpa using hx)
  | [], _ :: _, _, _, _, _, h, _ => by simp [DataW.TrodAll] at h
  | [], [], _ :: _, _, _, _, h, _ => by simp [DataW.TrodAll] at h
  | _ :: _, [], _, _, _, _, h, _ => by simp [DataW.TrodAll] at h
  | _ :: _, _ :: _, [], _, _, _, h, _ => by simp [DataW.TrodAll] at h

end

section
variable {H : Type} {enc : TypeId × Value → H} {P : Program}
/-- A law's contract, as its row wants it. -/
theorem law_contractB {B : DataW H → Nat} {N : Nat} (hB : Bulk B) {S : List TypeId} {f : FuncId} {fn : Func} {s : ChangeSpec} {tb : TypeId} {apart fresh handsOn again : Bool} (hp : plainT P S = true) (hl : laidOutB P = true) (hT : ∀ t ∈ fn.params.toList, t ∈ S ∧ P.readableRec t = true ∧ t < P.types.size)
    (hrt : fn.resultTypes = #[tb]) (hb : P.underlying tb = some .bool) (hv : s.vars = []) (hs : ∀ ds : List (DataW H), ds.length = fn.params.size → s.fn H ds = { results := [.lit (.bool true)], args := ds })
    (W : World) (base : Nat) (args : Array Value) (ds gs : List (DataW H)) (before : List MemPlace)
    (hval : ∀ (j : Nat) t v, fn.params[j]? = some t → args[j]? = some v → Value.okWide P W .any base t v)
    (hW : DataW.Whole enc P fn.params.toList s.vars apart W args.toList ds gs before)
    (hwt : (DataW.weightsEach P (fn.params.toList ++ s.plain.varTypes P) (ds ++ gs)).all (· ≤ reachBytes) = true)
    (hbk : (ds.map B).sum ≤ N) (hok : ∀ vs, WTs P fn.params.toList vs → (vs.map vb).sum ≤ N → FnOk P f vs ⟨[], 0⟩ { v := .t (.bool true) }) :
    Calls P f args W fun e W' => ∃ v, e = .returned v ∧ s.post enc P fn apart fresh handsOn again W args v W' := by
  have hW' := hW
  obtain ⟨p, q, hA, hV, rfl, hfz, hnd⟩ := hW
  rw [hv] at hV
  obtain ⟨rfl, rfl⟩ := trodVars_none hV
  have hdl : ds.length = fn.params.size := by
    have : ∀ (ts : List TypeId) (vs : List Value) (ds : List (DataW H)) (ps : List MemPlace), DataW.TrodAll enc P W 0 (fun _ => true) true ts vs ds ps → ds.length = ts.length := by
      intro ts
      induction ts with
      | nil => intro vs ds ps h; cases vs <;> cases ds <;> simp_all [DataW.TrodAll]
      | cons t ts ih =>
        intro vs ds ps h
        cases vs with
        | nil => simp [DataW.TrodAll] at h
        | cons v vs =>
          cases ds with
          | nil => simp [DataW.TrodAll] at h
          | cons d ds => obtain ⟨p, q, _, h2, _⟩ := h; simp [ih vs ds q h2]
    simpa using this _ _ _ _ hA
  have hwt' : (DataW.weightsEach P fn.params.toList ds).all (· ≤ reachBytes) = true := by
    have happ : ∀ (ts us : List TypeId) (ds es : List (DataW H)), ts.length = ds.length → DataW.weightsEach P (ts ++ us) (ds ++ es) = DataW.weightsEach P ts ds ++ DataW.weightsEach P us es := by
      intro ts
      induction ts with
      | nil => intro us ds es h; cases ds with
        | nil => simp [DataW.weightsEach]
        | cons d ds => simp at h
      | cons t ts ih => intro us ds es h; cases ds with
        | nil => simp at h
        | cons d ds => simp only [List.cons_append, DataW.weightsEach, List.append_assoc]; rw [ih us ds es (by simpa using h)]
    rw [happ _ _ _ _ (by simpa using hdl.symm), List.all_append, Bool.and_eq_true] at hwt
    exact hwt.1
  obtain ⟨vs, k1, k2, k4, k3⟩ := args_relB hB hp _ _ _ _ (fun t ht => (hT t ht).1) (fun j t v a b => hval j t v (by simpa using a) (by simpa using b)) hA hwt'
  refine ((hok vs k1 (Nat.le_trans k4 hbk)).2 (L.all W) args (RelS.all W) rfl (by simpa using k2) (fun j v x a b => k3 j v x (by simpa using a) b)).mono fun e W' he => ?_
  obtain ⟨v, Λ', rfl, rfl, g1, g2, g3, g4⟩ := he
  have hvt := g4.repT.bool_inv
  subst hvt
  have hbel : Below W.heap.size W Λ'.w := ⟨g1.fr.os, g1.fr.tape, g1.fr.output, g1.fr.size, fun b hb => (g1.fr.fix b hb none rfl).2⟩
  have hsf := hs (ds ++ []) (by simpa using hdl)
  refine ⟨_, rfl, post_of_below (pa := p) (pv := []) (by simpa using hW') ?_ ?_ ?_ (by simp) hbel ?_⟩
  · intro b sp hd
    rw [hsf, hrt]
    exact ⟨[], [], ⟨1, by simp [DataW.trod, hb, Value.cells]⟩, rfl, rfl⟩
  · intro sp hsp
    rw [hsf]
    have hlt : ∀ x ∈ p, x.block < W.heap.size := fun x hx => hW'.lt x (by simpa using hx)
    simpa using trodAll_stays hl hbel _ _ _ _ (fun t ht => (hT t ht).2) hA hlt (fun x hx => hsp x (by simpa using hx))
  · intro sp hsp
    rw [hsf, hv]; rfl
  · intro j t r hj hr
    rw [hrt] at hj
    cases j with
    | zero =>
      simp at hj; subst hj
      simp [hrt, Value.resultList] at hr; subst hr
      simp [Value.okWide, Cell.okWide, Cell.ok, hb]
    | succ j => simp at hj
/-- 'law_contractB', its facts as Booleans -/
theorem law_okB {H : Type} {enc : TypeId × Value → H} {P : Program} {B : DataW H → Nat} {N : Nat} (hB : Bulk B) (S : List TypeId) {f : FuncId} {fn : Func} {s : ChangeSpec} {tb : TypeId} {apart fresh handsOn again : Bool} (hp : plainT P S = true) (hl : laidOutB P = true)
    (hT : (fn.params.toList.all fun t => S.contains t && P.readableRec t && decide (t < P.types.size)) = true)
    (hrt : fn.resultTypes = #[tb]) (hb : P.underlying tb = some .bool) (hv : s.vars = []) (hs : ∀ ds : List (DataW H), ds.length = fn.params.size → s.fn H ds = { results := [.lit (.bool true)], args := ds })
    (W : World) (base : Nat) (args : Array Value) (ds gs : List (DataW H)) (before : List MemPlace)
    (hval : ∀ (j : Nat) t v, fn.params[j]? = some t → args[j]? = some v → Value.okWide P W .any base t v)
    (hW : DataW.Whole enc P fn.params.toList s.vars apart W args.toList ds gs before)
    (hwt : (DataW.weightsEach P (fn.params.toList ++ s.plain.varTypes P) (ds ++ gs)).all (· ≤ reachBytes) = true)
    (hbk : (ds.map B).sum ≤ N) (hok : ∀ vs, WTs P fn.params.toList vs → (vs.map vb).sum ≤ N → FnOk P f vs ⟨[], 0⟩ { v := .t (.bool true) }) :
    Calls P f args W fun e W' => ∃ v, e = .returned v ∧ s.post enc P fn apart fresh handsOn again W args v W' := by
  refine law_contractB hB (S := S) hp hl (fun t ht => ?_) hrt hb hv hs W base args ds gs before hval hW hwt hbk hok
  rw [List.all_eq_true] at hT
  have := hT t ht
  simp only [Bool.and_eq_true, decide_eq_true_eq, List.contains_iff_mem] at this
  exact ⟨this.1.1, this.1.2, this.2⟩

end
end Go.GB


/-
  F25K: what no violations of a document mean: its types, and the fields of each, have different names.
-/
namespace Go.GB.C11
open Go.GB
set_option linter.unusedSimpArgs false
set_option linter.unusedVariables false
set_option maxRecDepth 100000
set_option maxHeartbeats 2000000

def wFd : List Field → Nat
  | [] => 0
  | f :: r => f.args.length + f.dirs.length + wFd r
def wD (d : Def) : Nat := 1 + d.fields.length + d.members.length + d.inputs.length + d.dirs.length + d.implements.length + wFd d.fields
def wDs : List Def → Nat
  | [] => 0
  | d :: r => wD d + wDs r
theorem bulkLL_len {α : Type} (f : α → List T) (hf : ∀ x, 1 ≤ bulkL (f x)) : ∀ l : List α, l.length ≤ bulkLL (l.map f)
  | [] => by simp
  | x :: r => by
    have := hf x; have := bulkLL_len f hf r
    simp only [List.map_cons, bulkLL, List.length_cons]; omega
theorem bulk_pos (x : T) : 1 ≤ x.bulk := by cases x <;> simp [T.bulk]
theorem bulkL_cons (x : T) (r : List T) : 1 ≤ bulkL (x :: r) := by have := bulk_pos x; simp only [bulkL]; omega
theorem wF_bulk : ∀ l : List Field, l.length + wFd l ≤ bulkLL (l.map Field.enc)
  | [] => by simp [wFd]
  | f :: r => by
    have := wF_bulk r
    have h1 := bulkLL_len Input.enc (fun x => bulkL_cons _ _) f.args
    have h2 := bulkLL_len Dir.enc (fun x => bulkL_cons _ _) f.dirs
    simp only [List.map_cons, bulkLL, List.length_cons, wFd, Field.enc, bulkL, T.bulk]; omega
theorem wD_bulk (d : Def) : wD d ≤ bulkL d.enc := by
  have h1 := wF_bulk d.fields
  have h2 := bulkLL_len Member.enc (fun x => bulkL_cons _ _) d.members
  have h3 := bulkLL_len Input.enc (fun x => bulkL_cons _ _) d.inputs
  have h4 := bulkLL_len Dir.enc (fun x => bulkL_cons _ _) d.dirs
  have h5 := bulkLL_len sE (fun x => bulkL_cons _ _) d.implements
  simp only [wD, Def.enc, bulkL, T.bulk]; omega
theorem wDs_bulk : ∀ ds : List Def, wDs ds ≤ bulkLL (ds.map Def.enc)
  | [] => by simp [wDs]
  | d :: r => by have := wD_bulk d; have := wDs_bulk r; simp only [wDs, List.map_cons, bulkLL]; omega
theorem inF_lenR (ds : List Def) (a b : Str) : ∀ (l p : List Input), (inF ds a b p l).length ≤ 3 * l.length
  | [], p => by simp [inF]
  | x :: r, p => by
    have h1 := inF_lenR ds a b r (p ++ [x])
    have h2 := namesF_len x.name false (findInput x.name p).isSome (a ++ x.name ++ b)
    simp only [inF, inOne, List.length_append, List.length_cons]
    split
    · simp only [List.length_cons, List.length_nil]; omega
    · split
      · simp only [List.length_cons, List.length_nil]; omega
      · simp only [List.length_nil]; omega
theorem fldL_lenR (ds : List Def) (n : Str) : ∀ (l p : List Field), (fldL ds n p l).length ≤ 3 * (l.length + wFd l)
  | [], p => by simp [fldL]
  | x :: r, p => by
    have h1 := fldL_lenR ds n r (p ++ [x])
    have h2 := namesF_len x.name false (findField x.name p).isSome (n ++ [46] ++ x.name)
    have h3 := inF_lenR ds (n ++ [46] ++ x.name ++ [40]) [41] x.args []
    simp only [fldL, fldOne, List.length_append, List.length_cons, wFd]
    split
    · simp only [List.length_cons, List.length_nil]; omega
    · split
      · simp only [List.length_cons, List.length_nil]; omega
      · simp only [List.length_nil]; omega
theorem memL_lenR (n : Str) : ∀ (l p : List Member), (memL n p l).length ≤ 2 * l.length
  | [], p => by simp [memL]
  | x :: r, p => by
    have h1 := memL_lenR n r (p ++ [x])
    have h2 := namesF_len x.name (memBad x.name) (memF p x.name) (n ++ [46] ++ x.name)
    simp only [memL, List.length_append, List.length_cons]; omega
theorem wholeF_lenR (ds : List Def) (i : Nat) (d : Def) : (wholeF ds i d).length ≤ 5 := by
  have := namesF_len d.name false (twiceF ds i d.name) d.name
  unfold wholeF
  simp only [List.length_append]
  split <;> split <;> split <;> simp <;> omega
theorem chkL_lenR (ds : List Def) : ∀ (l : List Def) (i : Nat), (chkL ds i l).length ≤ 5 * l.length + 3 * wDs l
  | [], i => by simp [chkL]
  | d :: r, i => by
    have h1 := chkL_lenR ds r (i + 1)
    have h2 := wholeF_lenR ds i d
    have h3 : (chkK ds d).length ≤ 3 * wD d := by
      have a1 := fldL_lenR ds d.name d.fields []
      have a2 := memL_lenR d.name d.members []
      have a3 := inF_lenR ds (d.name ++ [46]) [] d.inputs []
      unfold chkK wD
      split
      · omega
      · split
        · omega
        · split
          · omega
          · split
            · omega
            · simp
    simp only [chkL, List.length_append, List.length_cons, wDs]; omega
theorem check_lenR {ds : List Def} (hb : bulkLL (ds.map Def.enc) ≤ 1048576) (q : Bool) : (checkF ds q).length ≤ 4398046511104 := by
  have h1 := chkL_lenR ds ds 0
  have h2 := wDs_bulk ds
  have h3 := bulkLL_len Def.enc (fun x => bulkL_cons _ _) ds
  unfold checkF chkQ
  rw [List.length_append]
  split <;> simp <;> omega
/- fields -/
end Go.GB.C11


/-
  F23N: what the bulk of a document says of its directives.
-/
namespace Go.GB.C23
open Go.GB Go.GB.C11

theorem mem_bulk {α : Type} {f : α → List T} : ∀ {l : List α} {x : α}, x ∈ l → bulkL (f x) ≤ bulkLL (l.map f)
  | y :: r, x, h => by
    simp only [List.map_cons, bulkLL]
    rcases List.mem_cons.1 h with rfl | h
    · omega
    · have := mem_bulk (f := f) h; omega
theorem len_bulk {α : Type} {f : α → List T} (h : ∀ x, 1 ≤ bulkL (f x)) : ∀ l : List α, l.length ≤ bulkLL (l.map f)
  | [] => by simp
  | y :: r => by
    have := len_bulk h r
    have := h y
    simp only [List.map_cons, bulkLL, List.length_cons]; omega
theorem dir_b (d : Dir) : 1 ≤ bulkL d.enc := by simp only [Dir.enc, bulkL, T.bulk]; omega
theorem dirs_b (l : List Dir) : l.length ≤ bulkLL (l.map Dir.enc) := len_bulk dir_b l
theorem dok_of {d : Dir} (ho : d.Ok) (hb : bulkL d.enc ≤ 1048576) : DOk d := by
  refine ⟨ho.l, ho.nm, fun a ha => ?_⟩
  have h1 := mem_bulk (f := Arg.enc) ha
  simp only [Dir.enc, bulkL, T.bulk] at hb
  simp only [Arg.enc, bulkL, T.bulk] at h1
  exact ⟨by omega, ho.a a ha, by omega⟩
theorem dsok_of {l : List Dir} (ho : ∀ d, d ∈ l → d.Ok) (hb : bulkLL (l.map Dir.enc) ≤ 1048576) : DsOk l :=
  ⟨by have := dirs_b l; omega, fun d hd => dok_of (ho d hd) (by have := mem_bulk (f := Dir.enc) hd; omega)⟩
theorem inpD_of {a : Input} (ho : a.Ok) (hb : bulkL a.enc ≤ 1048576) : InpD a := by
  simp only [Input.enc, bulkL, T.bulk] at hb
  exact ⟨ho.nm, dsok_of ho.d (by omega)⟩
theorem fldD_of {a : Field} (ho : a.Ok) (hb : bulkL a.enc ≤ 1048576) : FldD a := by
  simp only [Field.enc, bulkL, T.bulk] at hb
  exact ⟨ho.nm, dsok_of ho.d (by omega), ho.al, fun x hx => inpD_of (ho.a x hx) (by have := mem_bulk (f := Input.enc) hx; omega)⟩
theorem memD_of {a : Member} (ho : a.Ok) (hb : bulkL a.enc ≤ 1048576) : MemD a := by
  simp only [Member.enc, bulkL, T.bulk] at hb
  exact ⟨ho.nm, dsok_of ho.d (by omega)⟩
theorem inp_b (d : Input) : 1 ≤ bulkL d.enc := by simp only [Input.enc, bulkL, T.bulk]; omega
theorem fld_b (d : Field) : 1 ≤ bulkL d.enc := by simp only [Field.enc, bulkL, T.bulk]; omega
theorem mem_b (d : Member) : 1 ≤ bulkL d.enc := by simp only [Member.enc, bulkL, T.bulk]; omega
theorem def_b (d : Def) : 1 ≤ bulkL d.enc := by simp only [Def.enc, bulkL, T.bulk]; omega
theorem defD_of {a : Def} (ho : a.Ok) (hb : bulkL a.enc ≤ 1048576) : DefD a := by
  simp only [Def.enc, bulkL, T.bulk] at hb
  have h1 := len_bulk fld_b a.fields
  have h2 := len_bulk mem_b a.members
  have h3 := len_bulk inp_b a.inputs
  exact ⟨by omega, dsok_of ho.d (by omega), by omega, fun x hx => fldD_of (ho.f x hx) (by have := mem_bulk (f := Field.enc) hx; omega), by omega, fun x hx => memD_of (ho.m x hx) (by have := mem_bulk (f := Member.enc) hx; omega), by omega, fun x hx => inpD_of (ho.n x hx) (by have := mem_bulk (f := Input.enc) hx; omega)⟩
theorem docD_of {ds : List Def} (ho : DocOk ds) (hb : bulkLL (ds.map Def.enc) ≤ 1048576) : ∀ t, t ∈ ds → DefD t :=
  fun t ht => defD_of (ho.d t ht) (by have := mem_bulk (f := Def.enc) ht; omega)
theorem docL_of {ds : List Def} (hb : bulkLL (ds.map Def.enc) ≤ 1048576) : ds.length ≤ 1048576 := by
  have := len_bulk def_b ds; omega
theorem argL_len (s : Str) : ∀ l : List Input, (argL s l).length ≤ bulkLL (l.map Input.enc)
  | [] => by simp [argL]
  | a :: r => by
    have h1 := argL_len s r
    have h2 := usesF_len 0 (s ++ [40] ++ a.name ++ [41]) a.dirs []
    have h3 := dirs_b a.dirs
    simp only [argL, List.length_append, List.map_cons, bulkLL, Input.enc, bulkL, T.bulk] at h1 ⊢; omega
theorem fldL_len (s : Str) (pl : Int) : ∀ l : List Field, (fldL s pl l).length ≤ bulkLL (l.map Field.enc)
  | [] => by simp [fldL]
  | a :: r => by
    have h1 := fldL_len s pl r
    have h2 := usesF_len pl (s ++ [46] ++ a.name) a.dirs []
    have h3 := dirs_b a.dirs
    have h4 := argL_len (s ++ [46] ++ a.name) a.args
    simp only [fldL, List.length_append, List.map_cons, bulkLL, Field.enc, bulkL, T.bulk] at h1 ⊢; omega
theorem memL_len (s : Str) (pl : Int) : ∀ l : List Member, (memL s pl l).length ≤ bulkLL (l.map Member.enc)
  | [] => by simp [memL]
  | a :: r => by
    have h1 := memL_len s pl r
    have h2 := usesF_len pl (s ++ [46] ++ a.name) a.dirs []
    have h3 := dirs_b a.dirs
    simp only [memL, List.length_append, List.map_cons, bulkLL, Member.enc, bulkL, T.bulk] at h1 ⊢; omega
theorem inpL_len (s : Str) : ∀ l : List Input, (inpL s l).length ≤ bulkLL (l.map Input.enc)
  | [] => by simp [inpL]
  | a :: r => by
    have h1 := inpL_len s r
    have h2 := usesF_len 0 (s ++ [46] ++ a.name) a.dirs []
    have h3 := dirs_b a.dirs
    simp only [inpL, List.length_append, List.map_cons, bulkLL, Input.enc, bulkL, T.bulk] at h1 ⊢; omega
theorem partL_len (t : Def) : (partL t).length ≤ bulkLL (t.fields.map Field.enc) + bulkLL (t.members.map Member.enc) + bulkLL (t.inputs.map Input.enc) := by
  have h1 := fldL_len t.name 4 t.fields
  have h2 := fldL_len t.name 8 t.fields
  have h3 := memL_len t.name 0 t.members
  have h4 := memL_len t.name 16 t.members
  have h5 := inpL_len t.name t.inputs
  unfold partL
  split
  · omega
  · split
    · omega
    · split
      · omega
      · split
        · omega
        · split
          · omega
          · simp
theorem chkD_len : ∀ ds : List Def, (chkD ds).length ≤ bulkLL (ds.map Def.enc)
  | [] => by simp [chkD]
  | t :: r => by
    have h1 := chkD_len r
    have h2 := partL_len t
    have h3 := usesF_len (ownP t.kind) t.name t.dirs []
    have h4 := dirs_b t.dirs
    simp only [chkD, defL, List.length_append, List.map_cons, bulkLL, Def.enc, bulkL, T.bulk] at h1 ⊢; omega
end Go.GB.C23


/-
  F25L: moves: sizes of schemas; graphs as the laws want them.
-/
namespace Go.GB.C23
open Go.GB Go.GB.C11
set_option linter.unusedSimpArgs false
set_option linter.unusedVariables false
set_option maxRecDepth 100000
set_option maxHeartbeats 4000000
variable {P : Program}

/-- lengths of the parts of a definition -/
structure SzF (x : Field) : Prop where
  a : x.args.length ≤ 1048576
  d : x.dirs.length ≤ 1048576
structure SzD (t : Def) : Prop where
  i : t.implements.length ≤ 1048576
  d : t.dirs.length ≤ 1048576
  f : t.fields.length ≤ 1048576
  m : t.members.length ≤ 1048576
  n : t.inputs.length ≤ 1048576
  x : ∀ x, x ∈ t.fields → SzF x
def szF : List Field → Nat → Nat
  | [], n => n
  | x :: r, n => if n ≤ 400 then szF r (n + x.args.length + x.dirs.length) else n
def szD : List Def → Nat → Nat
  | [], n => n
  | t :: r, n => if n ≤ 400 then szD r (szF t.fields (n + t.implements.length + t.dirs.length + t.fields.length + t.members.length + t.inputs.length)) else n
theorem size_ok (H : Pr25 P) (ds : List Def) (hl : ds.length ≤ 1048576) (hs : ∀ t, t ∈ ds → SzD t) : FnOk P 12 [docV ds, .t (.int .i64 400)] ⟨[], 0⟩ { v := .t (.int .i64 ((szD ds ds.length : Nat) : Int)) } := by
  refine FnOk.run H.i12 H.mixed rfl rfl ?_
  refine fR rfl ?_
  refine lM rfl rfl rfl ?_
  refine fM rfl ?_
  refine rList ds (fun i (n : Nat) => { env := [(1, .t (.int .i64 400)), (2, .ptr 0 0), (5, .t (.int .i64 n)), (6, .t (.int .i64 i))], s := ⟨[(0, .cells [.t (.lst (ds.map Def.enc))])], 1⟩ }) (fun r i n => szD ds ds.length = szD r n ∧ n ≤ 10000000) 1 ds.length rfl ⟨rfl, by omega⟩ rfl rfl rfl ?_ ?_
  · rintro n ⟨hn, _⟩
    have hn' : szD ds ds.length = n := hn
    refine fR rfl ?_
    refine lM rfl rfl rfl ?_
    refine fM rfl ?_
    refine Run.condF rfl rfl (by simp) ?_
    refine fR rfl ?_
    refine Run.fin rfl (EndOk.go ?_); exact .t (by rw [hn'])
  · rintro i t r n h1 hi hd ⟨hn, hn2⟩ ih
    have ht := hs t (List.mem_of_getElem? h1)
    have t1 := ht.i
    have t2 := ht.d
    have t3 := ht.f
    have t4 := ht.m
    have t5 := ht.n
    refine fR rfl ?_
    refine lM rfl rfl rfl ?_
    refine fM rfl ?_
    by_cases hc : n ≤ 400
    · rw [szD, if_pos hc] at hn
      refine Run.condT rfl rfl (by simp; omega) ?_
      refine fR rfl ?_
      refine Mid.elemMap rfl rfl rfl h1 rfl rfl ?_
      refine fM rfl ?_
      refine lM rfl rfl rfl ?_
      refine aN rfl rfl rfl ?_
      refine fM rfl ?_
      refine lM rfl rfl rfl ?_
      refine aN rfl rfl rfl ?_
      refine fM rfl ?_
      refine lM rfl rfl rfl ?_
      refine aN rfl rfl rfl ?_
      refine fM rfl ?_
      refine lM rfl rfl rfl ?_
      refine aN rfl rfl rfl ?_
      refine fM rfl ?_
      refine lM rfl rfl rfl ?_
      refine aN rfl rfl rfl ?_
      refine fM rfl ?_
      refine rList t.fields (fun j (m : Nat) => { env := [(1, .t (.int .i64 400)), (2, .ptr 0 0), (5, .t (.int .i64 m)), (6, .t (.int .i64 i)), (7, .ptr 1 0), (8, .t (.int .i64 j))], s := ⟨[(0, .cells [.t (.lst (ds.map Def.enc))]), (1, (.cells [.t (.int .i64 t.kind), .t (.str t.name), .t (.lst (t.implements.map sE)), .t (.lst (t.dirs.map Dir.enc)), .t (.lst (t.fields.map Field.enc)), .t (.lst (t.members.map Member.enc)), .t (.lst (t.inputs.map Input.enc))]))], 2⟩ }) (fun r2 j m => szD ds ds.length = szD r (szF r2 m) ∧ m ≤ 10000000) 2 (n + t.implements.length + t.dirs.length + t.fields.length + t.members.length + t.inputs.length) rfl ⟨hn, by omega⟩ rfl rfl rfl ?_ ?_
      · rintro m ⟨hm, hm2⟩
        refine fR rfl ?_
        refine lM rfl rfl rfl ?_
        refine fM rfl ?_
        refine Run.condF rfl rfl (by simp) ?_
        refine fR rfl ?_
        refine aL rfl rfl rfl rfl rfl ?_
        refine fM rfl ?_
        exact rWeak 1 rfl (ih m ⟨hm, hm2⟩) rfl rfl rfl
      · rintro j x r2 m h2 hj hjd ⟨hm, hm2⟩ ih2
        have hx := ht.x x (List.mem_of_getElem? h2)
        have x1 := hx.a
        have x2 := hx.d
        refine fR rfl ?_
        refine lM rfl rfl rfl ?_
        refine fM rfl ?_
        by_cases hc2 : m ≤ 400
        · rw [szF, if_pos hc2] at hm
          refine Run.condT rfl rfl (by simp; omega) ?_
          refine fR rfl ?_
          refine Mid.elemMap rfl rfl rfl h2 rfl rfl ?_
          refine fM rfl ?_
          refine lM rfl rfl rfl ?_
          refine aN rfl rfl rfl ?_
          refine fM rfl ?_
          refine Mid.elemMap rfl rfl rfl h2 rfl rfl ?_
          refine fM rfl ?_
          refine lM rfl rfl rfl ?_
          refine aN rfl rfl rfl ?_
          refine fM rfl ?_
          refine aL rfl rfl rfl rfl rfl ?_
          refine fM rfl ?_
          exact rWeak 2 rfl (ih2 (m + x.args.length + x.dirs.length) ⟨hm, by omega⟩) rfl rfl rfl
        · rw [szF, if_neg hc2] at hm
          refine Run.condF rfl rfl (by simp; omega) ?_
          refine fR rfl ?_
          refine aL rfl rfl rfl rfl rfl ?_
          refine fM rfl ?_
          exact rWeak 1 rfl (ih m ⟨hm, hm2⟩) rfl rfl rfl
    · rw [szD, if_neg hc] at hn
      refine Run.condF rfl rfl (by simp; omega) ?_
      refine fR rfl ?_
      refine Run.fin rfl (EndOk.go ?_); exact .t (by rw [hn])
def bigG (g : Graph) : Bool := decide (((szD g.doc g.doc.length : Nat) : Int) > 400)
def largeG (gs : List Graph) : Bool := decide ((gs.length : Int) > 8) || gs.any bigG
/-- graphs of bounded bulk -/
structure GBu (g : Graph) : Prop where
  ok : DocOk g.doc
  n : g.name.length ≤ 140737488355328
  b : bulkLL (g.doc.map Def.enc) ≤ 1048576
theorem szF_of {x : Field} (hb : bulkL x.enc ≤ 1048576) : SzF x := by
  have h1 := len_bulk inp_b x.args
  have h2 := dirs_b x.dirs
  simp only [Field.enc, bulkL, T.bulk] at hb
  exact ⟨by omega, by omega⟩
theorem szD_of {t : Def} (hb : bulkL t.enc ≤ 1048576) : SzD t := by
  have h1 := len_bulk fld_b t.fields
  have h2 := dirs_b t.dirs
  have h3 := len_bulk mem_b t.members
  have h4 := len_bulk inp_b t.inputs
  have h5 := len_bulk (f := sE) (fun x => by simp only [sE, bulkL, T.bulk]; omega) t.implements
  simp only [Def.enc, bulkL, T.bulk] at hb
  exact ⟨by omega, by omega, by omega, by omega, by omega, fun x hx => szF_of (by have := mem_bulk (f := Field.enc) hx; omega)⟩
theorem GBu.sz {g : Graph} (h : GBu g) : ∀ t, t ∈ g.doc → SzD t := fun t ht => szD_of (by have := mem_bulk (f := Def.enc) ht; have := h.b; omega)
theorem GBu.l {g : Graph} (h : GBu g) : g.doc.length ≤ 1048576 := docL_of h.b
theorem dk_of {l : List Dir} (ho : ∀ d, d ∈ l → d.Ok) (hb : bulkLL (l.map Dir.enc) ≤ 1048576) : DK l := ⟨by have := dirs_b l; omega, (dsok_of ho hb).all⟩
theorem fk_of {x : Field} (ho : x.Ok) (hb : bulkL x.enc ≤ 1048576) : FK x := by
  simp only [Field.enc, bulkL, T.bulk] at hb
  have := ho.t.l
  exact ⟨dk_of ho.d (by omega), ho.al, by omega, ho.nm⟩
theorem tk_of {t : Def} (ho : t.Ok) (hb : bulkL t.enc ≤ 1048576) : TK t := by
  simp only [Def.enc, bulkL, T.bulk] at hb
  have := len_bulk fld_b t.fields
  exact ⟨dk_of ho.d (by omega), by omega, fun x hx => fk_of (ho.f x hx) (by have := mem_bulk (f := Field.enc) hx; omega), ho.nm⟩
theorem GBu.k {g : Graph} (h : GBu g) : GK g.doc := ⟨h.ok, h.l, fun t ht => tk_of (h.ok.d t ht) (by have := mem_bulk (f := Def.enc) ht; have := h.b; omega)⟩
theorem GBu.d {g : Graph} (h : GBu g) : ∀ t, t ∈ g.doc → DefD t := docD_of h.ok h.b
theorem GBu.c {g : Graph} (h : GBu g) : (chkD g.doc).length ≤ 1048576 := Nat.le_trans (chkD_len _) h.b
theorem GBu.i {g : Graph} (h : GBu g) : ∀ o, o ∈ g.doc → o.inputs.length ≤ 2199023255552 := fun o ho => by have := (h.sz o ho).n; omega

theorem large25_ok (H : Pr25 P) (gs : List Graph) (hl : gs.length ≤ 140737488355328) (hb : ∀ g, g ∈ gs → GBu g) : FnOk P 4 [.t (.lst (gs.map Graph.enc))] ⟨[], 0⟩ { v := .t (.bool (largeG gs)) } := by
  refine FnOk.run H.i4 H.mixed rfl rfl ?_
  refine fR rfl ?_
  refine lM rfl rfl rfl ?_
  refine fM rfl ?_
  refine Run.cond rfl rfl (fun h => ?_) (fun h => ?_)
  · have h' : decide ((gs.length : Int) > 8) = true := h
    refine fR rfl ?_
    refine Run.fin rfl (EndOk.go ?_); exact .t (by unfold largeG; rw [h']; rfl)
  · have h' : decide ((gs.length : Int) > 8) = false := h
    have e : largeG gs = gs.any bigG := by unfold largeG; rw [h']; rfl
    rw [e]
    refine fR rfl ?_
    refine rList gs (fun i (_ : Unit) => { env := [(0, .t (.lst (gs.map Graph.enc))), (3, .t (.int .i64 i))], s := ⟨[], 0⟩ }) (fun r i _ => gs.any bigG = r.any bigG) 0 () rfl rfl rfl rfl rfl ?_ ?_
    · intro _ hinv
      refine fR rfl ?_
      refine lM rfl rfl rfl ?_
      refine fM rfl ?_
      refine Run.condF rfl rfl (by simp) ?_
      refine fR rfl ?_
      refine Run.fin rfl (EndOk.go ?_); exact .t (by rw [hinv]; rfl)
    · intro i g r _ h1 hi hd hinv ih
      have hg := hb g (List.mem_of_getElem? h1)
      refine fR rfl ?_
      refine lM rfl rfl rfl ?_
      refine fM rfl ?_
      refine Run.condT rfl rfl (by simp; omega) ?_
      refine fR rfl ?_
      refine Mid.elemMap rfl rfl rfl h1 rfl rfl ?_
      refine fM rfl ?_
      refine Mid.call (size_ok H g.doc hg.l hg.sz) rfl rfl rfl rfl ?_
      refine fM rfl ?_
      refine Run.cond rfl rfl (fun hc => ?_) (fun hc => ?_)
      · have hc' : bigG g = true := hc
        refine fR rfl ?_
        refine Run.fin rfl (EndOk.go ?_); exact .t (by rw [hinv, List.any_cons, hc']; rfl)
      · have hc' : bigG g = false := hc
        refine fR rfl ?_
        refine aL rfl rfl rfl rfl rfl ?_
        refine fM rfl ?_
        exact rWeak 0 rfl (ih () (by rw [hinv, List.any_cons, hc']; rfl)) rfl rfl rfl
def faultyG (g : Graph) : Bool := decide (((checkF g.doc false).length : Int) > 0) || decide (((chkD g.doc).length : Int) > 0)
def rightG (gs : List Graph) : Bool := !((gs.length : Int) == 0 || decide ((gs.length : Int) > 8)) && !gs.any faultyG
theorem right25_ok (H : Pr25 P) (gs : List Graph) (hl : gs.length ≤ 140737488355328) (hb : ∀ g, g ∈ gs → GBu g) : FnOk P 5 [.t (.lst (gs.map Graph.enc))] ⟨[], 0⟩ { v := .t (.bool (rightG gs)) } := by
  refine FnOk.run H.i5 H.mixed rfl rfl ?_
  refine fR rfl ?_
  refine lM rfl rfl rfl ?_
  refine fM rfl ?_
  refine lMG rfl rfl rfl rfl ?_
  refine fM rfl ?_
  refine Run.cond rfl rfl (fun h => ?_) (fun h => ?_)
  · have h' : ((gs.length : Int) == 0 || decide ((gs.length : Int) > 8)) = true := h
    refine fR rfl ?_
    refine Run.fin rfl (EndOk.go ?_); exact .t (by unfold rightG; rw [h']; rfl)
  · have h' : ((gs.length : Int) == 0 || decide ((gs.length : Int) > 8)) = false := h
    have e : rightG gs = !gs.any faultyG := by unfold rightG; rw [h']; rfl
    rw [e]
    refine fR rfl ?_
    refine rList gs (fun i (_ : Unit) => { env := [(0, .t (.lst (gs.map Graph.enc))), (3, .t (.int .i64 i))], s := ⟨[], 0⟩ }) (fun r i _ => gs.any faultyG = r.any faultyG) 0 () rfl rfl rfl rfl rfl ?_ ?_
    · intro _ hinv
      refine fR rfl ?_
      refine lM rfl rfl rfl ?_
      refine fM rfl ?_
      refine Run.condF rfl rfl (by simp) ?_
      refine fR rfl ?_
      refine Run.fin rfl (EndOk.go ?_); exact .t (by rw [hinv]; rfl)
    · intro i g r _ h1 hi hd hinv ih
      have hgb := hb g (List.mem_of_getElem? h1)
      have hcl := check_lenR hgb.b false
      have hdl := hgb.c
      have hgl := hgb.l
      have h5 := check_ok H.toPr g.doc hgb.ok hgb.i false hcl
      have h6 := rCheck_ok H.toPr23 g.doc (by omega) hgb.d (by omega)
      refine fR rfl ?_
      refine lM rfl rfl rfl ?_
      refine fM rfl ?_
      refine Run.condT rfl rfl (by simp; omega) ?_
      refine fR rfl ?_
      refine Mid.elemMap rfl rfl rfl h1 rfl rfl ?_
      refine fM rfl ?_
      refine Mid.call (h5) rfl rfl rfl rfl ?_
      refine lM rfl rfl rfl ?_
      refine fM rfl ?_
      refine elG rfl rfl rfl rfl h1 rfl rfl ?_
      refine fM rfl ?_
      refine caG rfl rfl (fun hg => ⟨_, rfl, h6, rfl⟩) rfl rfl ?_
      refine lMG rfl rfl rfl rfl ?_
      refine fM rfl ?_
      refine Run.cond rfl rfl (fun hc => ?_) (fun hc => ?_)
      · have hc' : faultyG g = true := hc
        refine fR rfl ?_
        refine Run.fin rfl (EndOk.go ?_); exact .t (by rw [hinv, List.any_cons, hc']; rfl)
      · have hc' : faultyG g = false := hc
        refine fR rfl ?_
        refine aL rfl rfl rfl rfl rfl ?_
        refine fM rfl ?_
        exact rWeak 0 rfl (ih () (by rw [hinv, List.any_cons, hc']; rfl)) rfl rfl rfl
end Go.GB.C23


/-
  F25M: moves: the order of graphs does not matter; the law.
-/
namespace Go.GB.C23
open Go.GB Go.GB.C11
set_option linter.unusedSimpArgs false
set_option linter.unusedVariables false
set_option maxRecDepth 100000
set_option maxHeartbeats 4000000
variable {P : Program}

/- how many keys, joins and violations -/
theorem kDefs_len (i : Nat) : ∀ ds : List Def, (kDefs i ds).length ≤ bulkLL (ds.map Def.enc)
  | [] => by simp [kDefs]
  | t :: r => by
    have h1 := kDefs_len i r
    have h2 := keysD_len t.dirs
    have h3 := dirs_b t.dirs
    simp only [kDefs, kDef, List.length_append, List.map_cons, bulkLL, Def.enc, bulkL, T.bulk] at h1 ⊢
    split
    · simp only [List.length_map]; omega
    · simp only [List.length_nil]; omega
theorem jDefs_len (i : Nat) : ∀ ds : List Def, (jDefs i ds).length ≤ bulkLL (ds.map Def.enc)
  | [] => by simp [jDefs]
  | t :: r => by
    have h1 := jDefs_len i r
    have h3 := len_bulk fld_b t.fields
    simp only [jDefs, jDef, List.length_append, List.map_cons, bulkLL, Def.enc, bulkL, T.bulk] at h1 ⊢
    split
    · simp only [List.length_map]; omega
    · simp only [List.length_nil]; omega
theorem fL_len (gs : List Graph) (i : Nat) (g : Graph) (t : Def) : ∀ l : List Field, (fL gs i g t l).length ≤ 4 * l.length
  | [] => by simp [fL]
  | x :: r => by
    have h1 := fL_len gs i g t r
    have h2 := fieldF_len gs i g t x
    simp only [fL, List.length_append, List.length_cons]; omega
theorem bDefs_len (gs : List Graph) (i : Nat) (g : Graph) : ∀ ds : List Def, (bDefs gs i g ds).length ≤ 4 * bulkLL (ds.map Def.enc)
  | [] => by simp [bDefs]
  | t :: r => by
    have h1 := bDefs_len gs i g r
    have h2 := keyL_len g t (keysD t.dirs) 0
    have h3 := keysD_len t.dirs
    have h4 := dirs_b t.dirs
    have h5 := fL_len gs i g t t.fields
    have h6 := len_bulk fld_b t.fields
    simp only [bDefs, bDef, List.length_append, List.map_cons, bulkLL, Def.enc, bulkL, T.bulk] at h1 ⊢
    split
    · simp only [List.length_append]; omega
    · simp only [List.length_nil]; omega
theorem graph_b (g : Graph) : bulkLL (g.doc.map Def.enc) + 1 ≤ bulkL g.enc := by simp only [Graph.enc, bulkL, T.bulk]; omega
theorem kAll_len : ∀ (gs : List Graph) (i : Nat), (kAll i gs).length ≤ bulkLL (gs.map Graph.enc)
  | [], i => by simp [kAll]
  | g :: r, i => by
    have h1 := kAll_len r (i + 1)
    have h2 := kDefs_len i g.doc
    have h3 := graph_b g
    simp only [kAll, List.length_append, List.map_cons, bulkLL]; omega
theorem jAll_len : ∀ (gs : List Graph) (i : Nat), (jAll i gs).length ≤ bulkLL (gs.map Graph.enc)
  | [], i => by simp [jAll]
  | g :: r, i => by
    have h1 := jAll_len r (i + 1)
    have h2 := jDefs_len i g.doc
    have h3 := graph_b g
    simp only [jAll, List.length_append, List.map_cons, bulkLL]; omega
theorem bAll_len (G : List Graph) : ∀ (gs : List Graph) (i : Nat), (bAll G i gs).length ≤ 4 * bulkLL (gs.map Graph.enc)
  | [], i => by simp [bAll]
  | g :: r, i => by
    have h1 := bAll_len G r (i + 1)
    have h2 := bDefs_len G i g g.doc
    have h3 := graph_b g
    simp only [bAll, List.length_append, List.map_cons, bulkLL]; omega
/-- graphs whose bulk is bounded -/
structure GsOk (gs : List Graph) : Prop where
  o : ∀ g, g ∈ gs → DocOk g.doc ∧ g.name.length ≤ 140737488355328
  b : bulkLL (gs.map Graph.enc) ≤ 1048576
theorem GsOk.l {gs : List Graph} (h : GsOk gs) : gs.length ≤ 1048576 := by
  have := len_bulk (f := Graph.enc) (fun g => by have := graph_b g; omega) gs
  have := h.b; omega
theorem GsOk.u {gs : List Graph} (h : GsOk gs) : ∀ g, g ∈ gs → GBu g := fun g hg =>
  ⟨(h.o g hg).1, (h.o g hg).2, by have h1 := mem_bulk (f := Graph.enc) hg; have h2 := graph_b g; have h3 := h.b; omega⟩
theorem GsOk.j {gs : List Graph} (h : GsOk gs) : JoinsB gs := by
  have h1 := kAll_len gs 0
  have h2 := jAll_len gs 0
  have h3 := bAll_len gs gs 0
  have h4 := h.l
  have h5 := h.b
  exact ⟨by omega, fun g hg => (h.u g hg).k, fun g hg => (h.o g hg).2, by omega, by omega, by omega⟩
/- sums along graphs -/
end Go.GB.C23


/-
  F25N: moves: what no violations mean; the law.
-/
namespace Go.GB.C23
open Go.GB Go.GB.C11
set_option linter.unusedSimpArgs false
set_option linter.unusedVariables false
set_option maxRecDepth 100000
set_option maxHeartbeats 4000000
variable {P : Program}

def KeyO.v (k : KeyO) : V := .agg [.t (.str k.ty), .t (.int .i64 k.graph), .t (.lst (k.fields.map sE))]
/- how many other joins of a field there are -/
/- no violations -/
theorem foldl_keyN (ds : List Def) (t : Def) : ∀ (k : List Str) (b : Bool), k.foldl (keyN ds t) b = (b || k.any (keyN ds t false))
  | [], b => by simp
  | n :: r, b => by
    rw [List.foldl_cons, foldl_keyN ds t r, List.any_cons]
    have : keyN ds t b n = (b || keyN ds t false n) := by unfold keyN; simp [Bool.or_assoc]
    rw [this, Bool.or_assoc]
theorem kDefs_mem {i : Nat} {k : KeyO} : ∀ {l : List Def}, k ∈ kDefs i l → ∃ t ks, t ∈ l ∧ t.kind = 1 ∧ ks ∈ keysD t.dirs ∧ k = keyOf i t ks
  | [], h => by cases h
  | t :: r, h => by
    rw [kDefs] at h
    rcases List.mem_append.1 h with h | h
    · unfold kDef at h
      split at h
      · rename_i hk
        obtain ⟨ks, h1, rfl⟩ := List.mem_map.1 h
        exact ⟨t, ks, List.mem_cons_self .., hk, h1, rfl⟩
      · cases h
    · obtain ⟨t', ks, h1, h2⟩ := kDefs_mem h
      exact ⟨t', ks, List.mem_cons_of_mem _ h1, h2⟩
theorem kAll_mem {k : KeyO} : ∀ {l : List Graph} {i : Nat}, k ∈ kAll i l → ∃ (j : Nat) (g : Graph) (t : Def) (ks : List Str), l[j]? = some g ∧ t ∈ g.doc ∧ t.kind = 1 ∧ ks ∈ keysD t.dirs ∧ k = keyOf (i + j) t ks
  | [], i, h => by cases h
  | g :: r, i, h => by
    rw [kAll] at h
    rcases List.mem_append.1 h with h | h
    · obtain ⟨t, ks, h1, h2, h3, h4⟩ := kDefs_mem h
      exact ⟨0, g, t, ks, rfl, h1, h2, h3, h4⟩
    · obtain ⟨j, g', t, ks, h1, h2⟩ := kAll_mem h
      exact ⟨j + 1, g', t, ks, by simpa using h1, by rw [show i + (j + 1) = i + 1 + j by omega]; exact h2⟩
theorem jDefs_mem {i : Nat} {k : Jn} : ∀ {l : List Def}, k ∈ jDefs i l ↔ ∃ t x, t ∈ l ∧ t.kind = 1 ∧ x ∈ t.fields ∧ k = jnOf i t x
  | [] => by simp [jDefs]
  | t :: r => by
    rw [jDefs, List.mem_append, jDefs_mem]
    constructor
    · rintro (h | ⟨t', x, h1, h2⟩)
      · unfold jDef at h
        split at h
        · rename_i hk
          obtain ⟨x, h1, rfl⟩ := List.mem_map.1 h
          exact ⟨t, x, List.mem_cons_self .., hk, h1, rfl⟩
        · cases h
      · exact ⟨t', x, List.mem_cons_of_mem _ h1, h2⟩
    · rintro ⟨t', x, h1, h2, h3, rfl⟩
      rcases List.mem_cons.1 h1 with rfl | h1
      · left; unfold jDef; rw [if_pos h2]; exact List.mem_map.2 ⟨x, h3, rfl⟩
      · exact .inr ⟨t', x, h1, h2, h3, rfl⟩
theorem jAll_mem {k : Jn} : ∀ {l : List Graph} {i : Nat}, k ∈ jAll i l ↔ ∃ (j : Nat) (g : Graph) (t : Def) (x : Field), l[j]? = some g ∧ t ∈ g.doc ∧ t.kind = 1 ∧ x ∈ t.fields ∧ k = jnOf (i + j) t x
  | [], i => by simp [jAll]
  | g :: r, i => by
    rw [jAll, List.mem_append, jDefs_mem, jAll_mem]
    constructor
    · rintro (⟨t, x, h1, h2, h3, h4⟩ | ⟨j, g', t, x, h1, h2⟩)
      · exact ⟨0, g, t, x, rfl, h1, h2, h3, h4⟩
      · exact ⟨j + 1, g', t, x, by simpa using h1, by rw [show i + (j + 1) = i + 1 + j by omega]; exact h2⟩
    · rintro ⟨j, g', t, x, h1, h2⟩
      cases j with
      | zero => simp at h1; subst h1; exact .inl ⟨t, x, h2⟩
      | succ j => exact .inr ⟨j, g', t, x, by simpa using h1, by rw [show i + 1 + j = i + (j + 1) by omega]; exact h2⟩
end Go.GB.C23

