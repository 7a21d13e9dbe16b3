/-
  YtachaigkgjadpaaP7: lemmas of this proof (part 7). No conditions.
-/
import Derived.Test.YtachaigkgjadpaaP6
import Derived.KernelRfl
import Derived.Test.YtachaigkgjadpaaP5

/-
  H18C: chapter 18: collected groups as data; a field is added to its group.
-/
namespace Go.GB.C18
open Go.GB Go.GB.C11
set_option linter.unusedSimpArgs false
set_option linter.unusedVariables false
set_option maxRecDepth 100000
set_option maxHeartbeats 4000000
variable {P : Program}
structure Ent where
  sel : Sel
  lab : Str
def Ent.enc (e : Ent) : List T := [.int .i64 e.sel.kind, .str e.sel.ali, .str e.sel.name, .str e.sel.on, .lst (e.sel.args.map Arg.enc), .lst (e.sel.dirs.map Dir.enc), .lst (e.sel.sels.map Sel.enc), .str e.lab]
def Ent.v (e : Ent) : V := .agg [.t (.int .i64 e.sel.kind), .t (.str e.sel.ali), .t (.str e.sel.name), .t (.str e.sel.on), .t (.lst (e.sel.args.map Arg.enc)), .t (.lst (e.sel.dirs.map Dir.enc)), .t (.lst (e.sel.sels.map Sel.enc)), .t (.str e.lab)]
structure Grp where
  key : Str
  list : List Ent
structure CSt where
  out : List Grp
  done : List (Str × Str)
def keyF (s : Sel) : Str := if s.ali = [] then s.name else s.ali
def addF (e : Ent) : List Grp → List Grp
  | [] => [⟨keyF e.sel, [e]⟩]
  | g :: r => if g.key = keyF e.sel then ⟨g.key, g.list ++ [e]⟩ :: r else g :: addF e r
/-- where a key's group stands -/
def gidx (k : Str) : List Grp → Option Nat
  | [] => none
  | g :: r => if g.key = k then some 0 else (gidx k r).map (· + 1)
theorem gidx_lt {k : Str} : ∀ {l : List Grp} {j : Nat}, gidx k l = some j → ∃ g, l[j]? = some g ∧ g.key = k
  | [], j, h => by simp [gidx] at h
  | x :: r, j, h => by
    simp only [gidx] at h
    split at h
    · rename_i e; simp at h; subst h; exact ⟨x, rfl, e⟩
    · cases hr : gidx k r with
      | none => rw [hr] at h; simp at h
      | some i => rw [hr] at h; simp at h; subst h; obtain ⟨g, h1, h2⟩ := gidx_lt hr; exact ⟨g, by simpa using h1, h2⟩
theorem addF_none (e : Ent) : ∀ {l : List Grp}, gidx (keyF e.sel) l = none → addF e l = l ++ [⟨keyF e.sel, [e]⟩]
  | [], _ => rfl
  | x :: r, h => by
    simp only [gidx] at h
    split at h
    · cases h
    · rename_i hn
      cases hr : gidx (keyF e.sel) r with
      | none => simp only [addF, if_neg hn, addF_none e hr]; rfl
      | some i => rw [hr] at h; simp at h
theorem addF_some (e : Ent) : ∀ {l : List Grp} {j : Nat} {g : Grp}, gidx (keyF e.sel) l = some j → l[j]? = some g → addF e l = l.set j ⟨g.key, g.list ++ [e]⟩
  | [], j, g, h, _ => by simp [gidx] at h
  | x :: r, j, g, h, hg => by
    simp only [gidx] at h
    split at h
    · rename_i hn; simp at h; subst h; simp at hg; subst hg; simp only [addF, if_pos hn]; rfl
    · rename_i hn
      cases hr : gidx (keyF e.sel) r with
      | none => rw [hr] at h; simp at h
      | some i =>
        rw [hr] at h; simp at h; subst h
        simp only [addF, if_neg hn, addF_some e hr (by simpa using hg)]; rfl
/- the store: the collector, its groups, its marks, the groups' lists -/
def gV (p : Grp × Nat) : List V := [.t (.str p.1.key), .fow 3 p.2 8 (p.1.list.map Ent.enc)]
def gL (l : List Grp) : List Nat := l.map fun g => g.list.length
def markE (m : Str × Str) : List T := [.str m.1, .str m.2]
structure CCtx where
  ds : List Def
  q : Query
  on : Str
  vars : Val
def CO (c : CCtx) (n : Nat) : AObj := .cells [.t (.lst (c.ds.map Def.enc)), .t (.lst (c.q.ops.map Op.enc)), .t (.lst (c.q.frags.map Frag.enc)), .t (.str c.on), .t (.int .i64 c.vars.kind), .t (.int .i64 c.vars.int), .t (.str c.vars.text), .t (.lst (c.vars.items.map Val.enc)), .t (.lst (c.vars.keys.map sE)), .gsl 1 n 0 n 2, .mp 2]
def CS (c : CCtx) (s : CSt) : List (Nat × AObj) := [(0, CO c s.out.length), (1, .gro s.out.length (gE gV s.out.zipIdx)), (2, .map true (mE markE T.bool (s.done.map fun m => (m, true))) none), (3, .farr (gL s.out))]
theorem zipI {α : Type} {l : List α} {i : Nat} {x : α} (h : l[i]? = some x) : l.zipIdx[i]? = some (x, i) := by simp [List.getElem?_zipIdx, h]
theorem zip_push {α : Type} (l : List α) (x : α) : (l ++ [x]).zipIdx = l.zipIdx ++ [(x, l.length)] := by simp [List.zipIdx_append]
theorem zip_set {α : Type} (l : List α) (i : Nat) (x : α) : (l.set i x).zipIdx = l.zipIdx.set i (x, i) := by
  apply List.ext_getElem?
  intro j
  by_cases e : i = j
  · subst e
    by_cases h : i < l.length
    · simp [List.getElem?_zipIdx, List.getElem?_set, h]
    · simp [List.getElem?_zipIdx, List.getElem?_set, h]
  · simp [List.getElem?_zipIdx, List.getElem?_set, e]

/- the search among the groups -/
def gV2 (p : Grp × Nat) : List V := [.t (.str p.1.key), .fow 2 p.2 8 (p.1.list.map Ent.enc)]
def S59 (key : Str) (l : List Grp) (n : Nat) (ns : List Nat) : List (Nat × AObj) := [(0, .cells [.t (.str key)]), (1, .gro n (gE gV2 l.zipIdx)), (2, .farr ns)]
theorem S59_bd {key : Str} {l : List Grp} {n : Nat} {ns : List Nat} : stoBd 3 (S59 key l n ns) = true := by
  have h := V.bds_gE (m := 3) (f := gV2) (fun _ => rfl) l.zipIdx
  simp [S59, stoBd, AObj.bd, h, V.bds, V.bd]
theorem fkey_ok (H : Pr18 P) (k : Str) (L : List (List T)) (key : Str) (l : List Grp) (n : Nat) (ns : List Nat) : FnOk P 60 [.agg [.t (.str k), .t (.lst L)], .ptr 0 0] ⟨S59 key l n ns, 3⟩ { v := .t (.bool (k == key)), rd := true } := by
  unfold S59
  refine FnOk.run H.i60 H.mixed rfl rfl ?_
  refine fR rfl ?_
  refine Run.fin rfl (EndOk.sameX rfl rfl rfl S59_bd (.t rfl))
def gidxI (k : Str) (l : List Grp) : Int := match gidx k l with | some j => j | none => -1
theorem gfind_ok (H : Pr18 P) (key : Str) (l : List Grp) (hl : l.length ≤ 4611686018427387904) (ns : List Nat) : FnOk P 59 [.gsl 1 l.length 0 l.length 2, .fn 60 [(0, 0)]] ⟨S59 key l l.length ns, 3⟩ { v := .t (.int .i64 (gidxI key l)), rd := true } := by
  unfold S59
  refine FnOk.run H.i59 H.mixed rfl rfl ?_
  refine fR rfl ?_
  refine pu rfl ?_
  refine fM rfl ?_
  refine rList l (fun i (_ : Unit) => { env := [(0, .gsl 1 l.length 0 l.length 2), (1, .fn 60 [(0, 0)]), (7, .t (.int .i64 l.length)), (8, .t (.int .i64 i))], s := ⟨S59 key l l.length ns, 3⟩ }) (fun r i _ => gidx key l = (gidx key r).map (· + i)) 3 () rfl (by cases gidx key l <;> rfl) rfl rfl rfl ?_ ?_
  · rintro _ hinv
    have e : gidxI key l = -1 := by unfold gidxI; rw [hinv]; rfl
    rw [e]
    refine fR rfl ?_
    refine Run.condF rfl rfl (by simp) ?_
    refine fR rfl ?_
    refine Run.fin rfl (EndOk.sameX rfl rfl rfl S59_bd (.t rfl))
  · rintro i x r _ h1 hi hd hinv ih
    refine fR rfl ?_
    refine Run.condT rfl rfl (by simp; omega) ?_
    refine fR rfl ?_
    refine pu rfl ?_
    refine Mid.ldGA (i) 0 (sz := 2) rfl rfl (by omega) (by omega) (fun _ => rfl) (zipI h1) (by decide) rfl rfl ?_
    skip
    refine Mid.callvS rfl (fkey_ok H x.key (x.list.map Ent.enc) key l l.length ns) rfl rfl S59_bd rfl ?_
    refine fM rfl ?_
    refine Run.cond rfl rfl (fun hc => ?_) (fun hc => ?_)
    · have hk : x.key = key := by simpa using hc
      have e : gidxI key l = i := by unfold gidxI; rw [hinv]; simp [gidx, hk]
      rw [e]
      refine fR rfl ?_
      refine Run.fin rfl (EndOk.sameX rfl rfl rfl S59_bd (.t rfl))
    · have hk : ¬ x.key = key := by simpa using hc
      refine fR rfl ?_
      refine aL rfl rfl rfl rfl rfl ?_
      refine fM rfl ?_
      exact rWeak 3 rfl (ih () (by rw [hinv]; simp only [gidx, if_neg hk]; cases gidx key r with | none => rfl | some j => simp; omega)) rfl rfl rfl
theorem gV_len (p : Grp × Nat) : (gV p).length = 2 := rfl
theorem gV_bds {m : Nat} (h : 3 < m) (p : Grp × Nat) : V.bds m (gV p) = true := by simp [gV, V.bds, V.bd, h]
theorem CS_bd {c : CCtx} {s : CSt} : stoBd 4 (CS c s) = true := by
  have h := V.bds_gE (m := 4) (f := gV) (gV_bds (by decide)) s.out.zipIdx
  simp [CS, CO, stoBd, AObj.bd_mE]
  simp [AObj.bd, h, V.bds, V.bd]
structure EOk (e : Ent) : Prop where
  s : e.sel.Ok
theorem gL_set (l : List Grp) (i : Nat) (g : Grp) : gL (l.set i g) = (gL l).set i g.list.length := by simp [gL, List.map_set]
theorem gL_at {l : List Grp} {i : Nat} {g : Grp} (h : l[i]? = some g) : (gL l)[i]? = some g.list.length := by simp [gL, h]
theorem CS_end {c : CCtx} {s : CSt} {n : Nat} {l : List (Grp × Nat)} {ns : List Nat} {o2 : List Grp} {ex : List (Nat × AObj)} (h1 : n = o2.length) (h2 : l = o2.zipIdx) (h3 : ns = gL o2) :
    LeS 4 4 ((0, CO c n) :: (1, .gro n (gE gV l)) :: (2, .map true (mE markE T.bool (s.done.map fun m => (m, true))) none) :: (3, .farr ns) :: ex) [(0, CO c o2.length), (1, .gro o2.length (gE gV o2.zipIdx)), (2, .map true (mE markE T.bool (s.done.map fun m => (m, true))) none), (3, .farr (gL o2))] := by
  subst h1; subst h2; subst h3
  exact ⟨.inl ⟨by decide, _, rfl, .cells (.same rfl)⟩, .inl ⟨by decide, _, rfl, .gro (.gE rfl (gV_bds (by decide)))⟩, .inl ⟨by decide, _, rfl, .mE rfl (.inr rfl)⟩, .inl ⟨by decide, _, rfl, .farr rfl⟩, trivial⟩
theorem field_tail (H : Pr18 P) (c : CCtx) (s : CSt) (e : Ent) (o1 : List Grp) (i : Nat) (g : Grp) (hi : o1[i]? = some g) (hl : o1.length ≤ 1099511627776) (hg : g.list.length ≤ 549755813888) (hadd : addF e s.out = o1.set i ⟨g.key, g.list ++ [e]⟩) :
    Run P n43 4 (EndOk ⟨CS c s, 4⟩ { v := .tup [], ob := [(0, CO c (addF e s.out).length), (1, .gro (addF e s.out).length (gE gV (addF e s.out).zipIdx)), (3, .farr (gL (addF e s.out)))], rd := true } r43 .ret) (advK 200 [It.c c43_0]) { env := [(0, .ptr 0 0), (3, .ptr 4 0), (5, .t (.int .i64 i))], s := ⟨[(0, CO c o1.length), (1, .gro o1.length (gE gV o1.zipIdx)), (2, .map true (mE markE T.bool (s.done.map fun m => (m, true))) none), (3, .farr (gL o1)), (4, .cells [.t (.int .i64 e.sel.kind), .t (.str e.sel.ali), .t (.str e.sel.name), .t (.str e.sel.on), .t (.lst (e.sel.args.map Arg.enc)), .t (.lst (e.sel.dirs.map Dir.enc)), .t (.lst (e.sel.sels.map Sel.enc)), .t (.str e.lab)])], 5⟩ } := by
  have hil : i < o1.length := (List.getElem?_eq_some_iff.1 hi).1
  rw [hadd]
  refine fR rfl ?_
  refine pu rfl ?_
  refine pu rfl ?_
  refine Mid.ldG (i) 1 (sz := 2) rfl rfl (by omega) (by omega) (fun _ => rfl) (zipI hi) rfl rfl ?_
  refine fM rfl ?_
  refine Mid.appF Ent.enc g.list [e] rfl rfl (gL_at hi) rfl (fun _ => rfl) (by first | omega | (simp; omega) | (simp; done)) (by first | omega | (simp; omega) | (simp; done)) rfl ?_
  refine pu rfl ?_
  refine fM rfl ?_
  refine Mid.stG (((⟨g.key, g.list ++ [e]⟩, i) : Grp × Nat)) (i) 1 (sz := 2) rfl rfl rfl rfl rfl (by omega) (fun _ => rfl) (zipI hi) (by decide) rfl rfl ?_
  refine fM rfl ?_
  refine Run.fin rfl (EndOk.chg rfl rfl (.le (.same rfl)) ?_)
  exact CS_end (by simp) (by rw [zip_set]) (by rw [gL_set]; simp)
theorem field_ok (H : Pr18 P) (c : CCtx) (s : CSt) (e : Ent) (hl : s.out.length ≤ 549755813888) (hg : ∀ g, g ∈ s.out → g.list.length ≤ 549755813888) : FnOk P 43 [.ptr 0 0, e.v] ⟨CS c s, 4⟩ { v := .tup [], ob := [(0, CO c (addF e s.out).length), (1, .gro (addF e s.out).length (gE gV (addF e s.out).zipIdx)), (3, .farr (gL (addF e s.out)))], rd := true } := by
  have tail : ∀ K, K = keyF e.sel → Run P n43 4 (EndOk ⟨CS c s, 4⟩ { v := .tup [], ob := [(0, CO c (addF e s.out).length), (1, .gro (addF e s.out).length (gE gV (addF e s.out).zipIdx)), (3, .farr (gL (addF e s.out)))], rd := true } r43 .ret) (advK 200 [It.c c43_5]) { env := [(0, .ptr 0 0), (3, .ptr 4 0), (4, .ptr 5 0)], s := ⟨[(0, CO c s.out.length), (1, .gro s.out.length (gE gV s.out.zipIdx)), (2, .map true (mE markE T.bool (s.done.map fun m => (m, true))) none), (3, .farr (gL s.out)), (4, .cells [.t (.int .i64 e.sel.kind), .t (.str e.sel.ali), .t (.str e.sel.name), .t (.str e.sel.on), .t (.lst (e.sel.args.map Arg.enc)), .t (.lst (e.sel.dirs.map Dir.enc)), .t (.lst (e.sel.sels.map Sel.enc)), .t (.str e.lab)]), (5, .cells [.t (.str K)])], 6⟩ } := by
    rintro K rfl
    have hf := gfind_ok H (keyF e.sel) s.out (by omega) (gL s.out)
    cases hx : gidx (keyF e.sel) s.out with
    | none =>
      have e1 : gidxI (keyF e.sel) s.out = -1 := by unfold gidxI; rw [hx]
      rw [e1] at hf
      refine fR rfl ?_
      refine Mid.callRd [5, 1, 3] (hf) rfl rfl rfl rfl S59_bd (by repeat' (first | exact trivial | exact rfl | refine And.intro ?_ ?_ | exact (congrArg some (AObj.ren_mE _ _ _ _ _ _)).symm | exact (congrArg some (AObj.ren_cE _ _ _)).symm | (refine (congrArg some (AObj.ren_gE ?_ _ _)).symm; intro _; rfl))) rfl ?_
      refine fM rfl ?_
      refine Run.condT rfl rfl rfl ?_
      refine Run.fast (f := 14) rfl (by (repeat' (first | exact trivial | exact Bool.not_or_self _ | exact grd1 _ | exact grd2 _ | exact grd3 _ _ | exact grd4 _ _ | refine And.intro ?_ ?_ | exact rfl | (simp; done) | (simp <;> omega))); done) ?_
      refine Mid.lenG rfl rfl rfl ?_
      refine Mid.fast (f := 10) rfl (by (repeat' (first | exact trivial | exact Bool.not_or_self _ | exact grd1 _ | exact grd2 _ | exact grd3 _ _ | exact grd4 _ _ | refine And.intro ?_ ?_ | exact rfl | (simp; done) | (simp <;> omega))); done) ?_
      refine Mid.bslO rfl rfl ?_
      refine Mid.appGC (vs := [.t (.str (keyF e.sel)), .nils]) (mm := 1) rfl rfl (by rw [gE_length gV_len]; simp) rfl rfl (by omega) (by omega) rfl ?_
      refine Mid.fast (f := 4) rfl (by (repeat' (first | exact trivial | exact Bool.not_or_self _ | exact grd1 _ | exact grd2 _ | exact grd3 _ _ | exact grd4 _ _ | refine And.intro ?_ ?_ | exact rfl | (simp; done) | (simp <;> omega))); done) ?_
      have hlen : (s.out ++ [(⟨keyF e.sel, []⟩ : Grp)]).length = s.out.length + 1 := by simp
      refine Run.weakZ 5 rfl (st' := { env := [(0, .ptr 0 0), (3, .ptr 4 0), (5, .t (.int .i64 s.out.length))], s := ⟨[(0, CO c (s.out ++ [(⟨keyF e.sel, []⟩ : Grp)]).length), (1, .gro (s.out ++ [(⟨keyF e.sel, []⟩ : Grp)]).length (gE gV (s.out ++ [(⟨keyF e.sel, []⟩ : Grp)]).zipIdx)), (2, .map true (mE markE T.bool (s.done.map fun m => (m, true))) none), (3, .farr (gL (s.out ++ [(⟨keyF e.sel, []⟩ : Grp)]))), (4, .cells [.t (.int .i64 e.sel.kind), .t (.str e.sel.ali), .t (.str e.sel.name), .t (.str e.sel.on), .t (.lst (e.sel.args.map Arg.enc)), .t (.lst (e.sel.dirs.map Dir.enc)), .t (.lst (e.sel.sels.map Sel.enc)), .t (.str e.lab)])], 5⟩ }) ?_ rfl rfl rfl ?_ ?_
      · exact Run.adv 200 rfl (field_tail H c s e _ s.out.length ⟨keyF e.sel, []⟩ (by simp) (by omega) (by simp) (by rw [addF_none e hx]; simp))
      · exact ⟨.le (Nat.le_of_ble_eq_true rfl) (.same rfl), .le (Nat.le_of_ble_eq_true rfl) (.same rfl), .le (Nat.le_of_ble_eq_true rfl) .t, trivial⟩
      · rw [hlen, zip_push]
        refine ⟨.inl ⟨Nat.le_of_ble_eq_true rfl, _, rfl, .le (.cells (.same rfl))⟩, .inl ⟨Nat.le_of_ble_eq_true rfl, _, rfl, LeOZ.groPush (Nat.le_of_ble_eq_true rfl) rfl (gV_bds (by decide)) (.cons (.le (Nat.le_of_ble_eq_true rfl) .t) (.cons (LeZ.nilFow (Nat.le_of_ble_eq_true rfl) (Nat.le_of_ble_eq_true rfl)) .nil))⟩, .inl ⟨Nat.le_of_ble_eq_true rfl, _, rfl, .le (.mE rfl (.inr rfl))⟩, .inl ⟨Nat.le_of_ble_eq_true rfl, _, rfl, .farr fun i => ?_⟩, .inl ⟨Nat.le_of_ble_eq_true rfl, _, rfl, .le (.cells (.same rfl))⟩, trivial⟩
        have : gL (s.out ++ [(⟨keyF e.sel, []⟩ : Grp)]) = gL s.out ++ [0] := by simp [gL]
        rw [this]; exact farr_zero i
    | some j =>
      have e1 : gidxI (keyF e.sel) s.out = j := by unfold gidxI; rw [hx]
      rw [e1] at hf
      obtain ⟨g, h1, h2⟩ := gidx_lt hx
      refine fR rfl ?_
      refine Mid.callRd [5, 1, 3] (hf) rfl rfl rfl rfl S59_bd (by repeat' (first | exact trivial | exact rfl | refine And.intro ?_ ?_ | exact (congrArg some (AObj.ren_mE _ _ _ _ _ _)).symm | exact (congrArg some (AObj.ren_cE _ _ _)).symm | (refine (congrArg some (AObj.ren_gE ?_ _ _)).symm; intro _; rfl))) rfl ?_
      refine fM rfl ?_
      refine Run.condF rfl rfl (by simp) ?_
      refine rWeakC 5 rfl (st' := { env := [(0, .ptr 0 0), (3, .ptr 4 0), (5, .t (.int .i64 j))], s := ⟨[(0, CO c s.out.length), (1, .gro s.out.length (gE gV s.out.zipIdx)), (2, .map true (mE markE T.bool (s.done.map fun m => (m, true))) none), (3, .farr (gL s.out)), (4, .cells [.t (.int .i64 e.sel.kind), .t (.str e.sel.ali), .t (.str e.sel.name), .t (.str e.sel.on), .t (.lst (e.sel.args.map Arg.enc)), .t (.lst (e.sel.dirs.map Dir.enc)), .t (.lst (e.sel.sels.map Sel.enc)), .t (.str e.lab)])], 5⟩ }) ?_ rfl rfl rfl
      exact Run.adv 200 rfl (field_tail H c s e s.out j g h1 (by omega) (hg g (List.mem_of_getElem? h1)) (addF_some e hx h1))
  refine FnOk.run H.i43 H.mixed rfl rfl ?_
  refine fR rfl ?_
  by_cases ha : e.sel.ali = []
  · have hk : e.sel.name = keyF e.sel := by unfold keyF; rw [if_pos ha]
    refine Run.condT rfl rfl (by simp [ha]) ?_
    refine Run.fast (f := 6) rfl trivial ?_
    exact Run.adv 200 rfl (tail _ hk)
  · have hk : e.sel.ali = keyF e.sel := by unfold keyF; rw [if_neg ha]
    refine Run.condF rfl rfl (by simp [ha]) ?_
    refine rWeakC 6 rfl (st' := { env := [(0, .ptr 0 0), (3, .ptr 4 0), (4, .ptr 5 0)], s := ⟨[(0, CO c s.out.length), (1, .gro s.out.length (gE gV s.out.zipIdx)), (2, .map true (mE markE T.bool (s.done.map fun m => (m, true))) none), (3, .farr (gL s.out)), (4, .cells [.t (.int .i64 e.sel.kind), .t (.str e.sel.ali), .t (.str e.sel.name), .t (.str e.sel.on), .t (.lst (e.sel.args.map Arg.enc)), .t (.lst (e.sel.dirs.map Dir.enc)), .t (.lst (e.sel.sels.map Sel.enc)), .t (.str e.lab)]), (5, .cells [.t (.str e.sel.ali)])], 6⟩ }) ?_ rfl rfl rfl
    exact Run.adv 200 rfl (tail _ hk)
end Go.GB.C18


/-
  H18D: chapter 18: the reference adds a field to its group, and notes what it has processed.
-/
namespace Go.GB.C18
open Go.GB Go.GB.C11
set_option linter.unusedSimpArgs false
set_option linter.unusedVariables false
set_option maxRecDepth 100000
set_option maxHeartbeats 4000000
variable {P : Program}
instance : DecidableEq (Str × Str) := inferInstance
end Go.GB.C18


/-
  H18P: chapter 18: what entries collect, how much of it, and that fuel is enough.
-/
namespace Go.GB.C18
open Go.GB Go.GB.C11
set_option linter.unusedSimpArgs false
set_option linter.unusedVariables false
set_option maxRecDepth 100000
set_option maxHeartbeats 4000000
def entF (c : CCtx) : Nat → Ent → CSt → CSt
  | 0, _, s => s
  | n + 1, e, s =>
    if incF c.vars e.sel.dirs = false then s
    else if e.sel.kind = 3 then
      if e.sel.on = [] ∨ isF c.ds c.on e.sel.on = true then e.sel.sels.foldl (fun s x => entF c n ⟨x, labF e.lab e.sel.dirs⟩ s) s else s
    else if e.sel.kind = 2 then
      match findFrag e.sel.name c.q.frags with
      | none => s
      | some f =>
        if isF c.ds c.on f.on = true ∧ ¬ (e.sel.name, labF e.lab e.sel.dirs) ∈ s.done then
          f.sels.foldl (fun s x => entF c n ⟨x, labF e.lab e.sel.dirs⟩ s) ⟨s.out, s.done ++ [(e.sel.name, labF e.lab e.sel.dirs)]⟩
        else s
    else ⟨addF e s.out, s.done⟩
def selsF (c : CCtx) (n : Nat) (lab : Str) (l : List Sel) (s : CSt) : CSt := l.foldl (fun s x => entF c n ⟨x, lab⟩ s) s

mutual
def selN : Sel → Nat
  | .mk _ _ _ _ _ _ ss => 1 + selsN ss
def selsN : List Sel → Nat
  | [] => 0
  | x :: r => selN x + selsN r
end
theorem selN_eq (s : Sel) : selN s = 1 + selsN s.sels := by cases s; rfl
inductive SelL (Lb : Str → Prop) : Sel → Prop where
  | mk {k : Int} {a n o : Str} {ar : List Arg} {ds : List Dir} {ss : List Sel} (h1 : ∀ o, Lb o → Lb (labF o ds)) (h2 : ∀ x, x ∈ ss → SelL Lb x) : SelL Lb (.mk k a n o ar ds ss)
theorem SelL.l {Lb : Str → Prop} {s : Sel} (h : SelL Lb s) : ∀ o, Lb o → Lb (labF o s.dirs) := by cases h with | mk h1 h2 => exact h1
theorem SelL.s {Lb : Str → Prop} {s : Sel} (h : SelL Lb s) : ∀ x, x ∈ s.sels → SelL Lb x := by cases h with | mk h1 h2 => exact h2

def phi (q : Query) (d : List (Str × Str)) : List (Str × Str × Nat) → Nat
  | [] => 0
  | m :: r => (if (m.1, m.2.1) ∈ d then 0 else m.2.2) + phi q d r
theorem phi_le (q : Query) (d : List (Str × Str)) (m : Str × Str) : ∀ U, phi q (d ++ [m]) U ≤ phi q d U
  | [] => Nat.le_refl _
  | u :: r => by
    have := phi_le q d m r
    simp only [phi]
    by_cases h : (u.1, u.2.1) ∈ d
    · simp [h]; omega
    · by_cases h2 : (u.1, u.2.1) = m
      · simp [h, h2]; omega
      · simp [h, h2]; omega
theorem phi_note {q : Query} {d : List (Str × Str)} {m : Str × Str} {w : Nat} (hn : ¬ m ∈ d) : ∀ {U : List (Str × Str × Nat)}, (m.1, m.2, w) ∈ U → phi q (d ++ [m]) U + w ≤ phi q d U
  | [], h => by simp at h
  | u :: r, h => by
    simp only [phi]
    by_cases e : u = (m.1, m.2, w)
    · subst e
      have := phi_le q d m r
      simp [hn]; omega
    · have hr : (m.1, m.2, w) ∈ r := by
        rcases List.mem_cons.1 h with h | h
        · exact absurd h.symm e
        · exact h
      have := phi_note (q := q) hn hr
      by_cases h1 : (u.1, u.2.1) ∈ d
      · simp [h1]; omega
      · by_cases h2 : (u.1, u.2.1) = m
        · simp [h1, h2]; omega
        · simp [h1, h2]; omega

def cnt : List Grp → Nat
  | [] => 0
  | g :: r => g.list.length + cnt r
theorem cnt_add (e : Ent) : ∀ l : List Grp, cnt (addF e l) = cnt l + 1
  | [] => rfl
  | g :: r => by
    simp only [addF]
    split
    · simp [cnt]; omega
    · have := cnt_add e r; simp [cnt]; omega
theorem cnt_mem {g : Grp} : ∀ {l : List Grp}, g ∈ l → g.list.length ≤ cnt l
  | [], h => by simp at h
  | x :: r, h => by
    rcases List.mem_cons.1 h with rfl | h
    · simp [cnt]
    · have := cnt_mem h; simp [cnt]; omega
def Full (l : List Grp) : Prop := ∀ g, g ∈ l → g.list ≠ []
theorem Full.len : ∀ {l : List Grp}, Full l → l.length ≤ cnt l
  | [], _ => Nat.le_refl _
  | g :: r, h => by
    have h1 : g.list ≠ [] := h g (by simp)
    have := Full.len (l := r) (fun x hx => h x (by simp [hx]))
    have : 0 < g.list.length := List.length_pos_iff.2 h1
    simp [cnt]; omega
theorem Full.add (e : Ent) : ∀ {l : List Grp}, Full l → Full (addF e l)
  | [], _ => by intro g hg; simp [addF] at hg; subst hg; simp
  | x :: r, h => by
    intro g hg
    simp only [addF] at hg
    split at hg
    · rcases List.mem_cons.1 hg with rfl | hg
      · simp
      · exact h g (by simp [hg])
    · rcases List.mem_cons.1 hg with rfl | hg
      · exact h _ (by simp)
      · exact Full.add e (l := r) (fun y hy => h y (by simp [hy])) g hg

/-- what is asked of schema, document and labels -/
structure COk (c : CCtx) (Lb : Str → Prop) (U : List (Str × Str × Nat)) : Prop where
  ds : DocOk c.ds
  q : c.q.Ok
  vars : c.vars.Ok
  frag : ∀ f, f ∈ c.q.frags → ∀ x, x ∈ f.sels → SelL Lb x
  mark : ∀ (n : Str) (f : Frag) (l : Str), findFrag n c.q.frags = some f → Lb l → (n, l, selsN f.sels + 1) ∈ U
structure EntOk (Lb : Str → Prop) (e : Ent) : Prop where
  s : e.sel.Ok
  l : SelL Lb e.sel
  o : Lb e.lab
/-- what a step keeps -/
structure Post (c : CCtx) (U : List (Str × Str × Nat)) (s s' : CSt) (k : Nat) : Prop where
  n : cnt s'.out + phi c.q s'.done U ≤ cnt s.out + phi c.q s.done U + k
  p : phi c.q s'.done U ≤ phi c.q s.done U
  f : Full s'.out
  d : s'.done.length + phi c.q s'.done U ≤ s.done.length + phi c.q s.done U
theorem Post.refl {c : CCtx} {U : List (Str × Str × Nat)} {s : CSt} {k : Nat} (h : Full s.out) : Post c U s s k := ⟨by omega, Nat.le_refl _, h, Nat.le_refl _⟩
theorem Post.trans {c : CCtx} {U : List (Str × Str × Nat)} {s s' s'' : CSt} {k j : Nat} (h : Post c U s s' k) (g : Post c U s' s'' j) : Post c U s s'' (k + j) :=
  ⟨by have := h.n; have := g.n; omega, Nat.le_trans g.p h.p, g.f, Nat.le_trans g.d h.d⟩

theorem ent_sub {Lb : Str → Prop} {e : Ent} (h : EntOk Lb e) : ∀ x, x ∈ e.sel.sels → EntOk Lb ⟨x, labF e.lab e.sel.dirs⟩ :=
  fun x hx => ⟨h.s.s x hx, h.l.s x hx, h.l.l _ h.o⟩
theorem ent_frag {c : CCtx} {Lb : Str → Prop} {U : List (Str × Str × Nat)} (hc : COk c Lb U) {e : Ent} (h : EntOk Lb e) {f : Frag} (hf : findFrag e.sel.name c.q.frags = some f) : ∀ x, x ∈ f.sels → EntOk Lb ⟨x, labF e.lab e.sel.dirs⟩ :=
  fun x hx => ⟨(hc.q.f f (findFrag_mem hf)).s.2 x hx, hc.frag f (findFrag_mem hf) x hx, h.l.l _ h.o⟩
theorem fold_post {c : CCtx} {Lb : Str → Prop} {U : List (Str × Str × Nat)} {n : Nat} {lab : Str} (ih : ∀ e s, EntOk Lb e → Full s.out → Post c U s (entF c n e s) (selN e.sel)) : ∀ (l : List Sel) (s : CSt), (∀ x, x ∈ l → EntOk Lb ⟨x, lab⟩) → Full s.out → Post c U s (selsF c n lab l s) (selsN l)
  | [], s, _, hf => .refl hf
  | x :: r, s, hl, hf => by
    have h1 := ih ⟨x, lab⟩ s (hl x (by simp)) hf
    have h2 := fold_post (lab := lab) ih r (entF c n ⟨x, lab⟩ s) (fun y hy => hl y (by simp [hy])) h1.f
    have := h1.trans h2
    simp only [selsN]; exact this
theorem ent_post {c : CCtx} {Lb : Str → Prop} {U : List (Str × Str × Nat)} (hc : COk c Lb U) : ∀ (n : Nat) (e : Ent) (s : CSt), EntOk Lb e → Full s.out → Post c U s (entF c n e s) (selN e.sel)
  | 0, e, s, he, hf => .refl hf
  | n + 1, e, s, he, hf => by
    have ih := ent_post hc n
    rw [selN_eq]
    simp only [entF]
    split
    · exact .refl hf
    · split
      · split
        · have := fold_post (lab := labF e.lab e.sel.dirs) ih e.sel.sels s (ent_sub he) hf
          unfold selsF at this
          exact ⟨by have := this.n; omega, this.p, this.f, this.d⟩
        · exact .refl hf
      · split
        · split
          · exact .refl hf
          · rename_i f hfr
            split
            · rename_i hm
              have hU := hc.mark _ f (labF e.lab e.sel.dirs) hfr (he.l.l _ he.o)
              have h1 := phi_note (q := c.q) hm.2 hU
              have := fold_post (lab := labF e.lab e.sel.dirs) ih f.sels ⟨s.out, s.done ++ [(e.sel.name, labF e.lab e.sel.dirs)]⟩ (ent_frag hc he hfr) hf
              unfold selsF at this
              exact ⟨by have := this.n; simp only at this; omega, by have := this.p; simp only at this; omega, this.f, by have := this.d; simp only [List.length_append, List.length_singleton] at this; omega⟩
            · exact .refl hf
        · refine ⟨?_, Nat.le_refl _, hf.add e, Nat.le_refl _⟩
          simp only [cnt_add]; omega
end Go.GB.C18


/-
  H18E: chapter 18: the program's collector computes what entries collect.
-/
namespace Go.GB.C18
open Go.GB Go.GB.C11
set_option linter.unusedSimpArgs false
set_option linter.unusedVariables false
set_option maxRecDepth 100000
set_option maxHeartbeats 8000000
variable {P : Program}
theorem markE_ok : KeyEnc [.str, .str] markE := ⟨fun _ => rfl, fun x y h => by simp [markE, keyEq, T.eqb] at h; exact Prod.ext h.1 h.2, fun x => by simp [markE, keyEq, T.eqb]⟩
theorem kget_done (m : Str × Str) : ∀ (d : List (Str × Str)), (kget m (d.map fun m => (m, true))).getD false = decide (m ∈ d)
  | [] => by simp [kget]
  | x :: r => by
    have := kget_done m r
    simp only [List.map_cons, kget]
    by_cases h : m = x
    · simp [h]
    · simp [h, this]
theorem kset_done {m : Str × Str} : ∀ {d : List (Str × Str)}, ¬ m ∈ d → kset m true (d.map fun m => (m, true)) = (d ++ [m]).map fun m => (m, true)
  | [], _ => rfl
  | x :: r, h => by
    have h1 : ¬ m = x := fun e => h (by simp [e])
    have h2 := kset_done (m := m) (d := r) (fun e => h (by simp [e]))
    simp only [List.map_cons, kset, if_neg h1, h2, List.cons_append]
theorem CS_ren {c : CCtx} {s : CSt} {b : Nat} : renOb (renF [0, 1, 2, 3] b) (CS c s) = CS c s := by
  have h : ∀ p, V.rens (renF [0, 1, 2, 3] b) (gV p) = gV p := fun p => rfl
  simp only [CS, CO, renOb, AObj.ren_mE, AObj.ren_gE h]
  rfl
theorem CS_fin {c : CCtx} {s : CSt} {ex : List (Nat × AObj)} : LeS 4 4 (CS c s ++ ex) (CS c s) :=
  CS_end rfl rfl rfl
theorem FO_ren {c : CCtx} {n : Nat} {l : List (Grp × Nat)} {ns : List Nat} {b : Nat} : renOb (renF [0, 1, 2, 3] b) [(0, CO c n), (1, .gro n (gE gV l)), (3, .farr ns)] = [(0, CO c n), (1, .gro n (gE gV l)), (3, .farr ns)] := by
  have h : ∀ p, V.rens (renF [0, 1, 2, 3] b) (gV p) = gV p := fun p => rfl
  simp only [CO, renOb, AObj.ren_gE h]
  rfl
def EntC (P : Program) (c : CCtx) (n : Nat) (e : Ent) (s : CSt) : Prop := FnOk P 28 [.ptr 0 0, e.v] ⟨CS c s, 4⟩ { v := .tup [], ob := CS c (entF c n e s), rd := true }
def SelsC (P : Program) (c : CCtx) (n : Nat) (lab : Str) (l : List Sel) (s : CSt) : Prop := FnOk P 40 [.ptr 0 0, .t (.lst (l.map Sel.enc)), .t (.str lab)] ⟨CS c s, 4⟩ { v := .tup [], ob := CS c (selsF c n lab l s), rd := true }
theorem sels_step (H : Pr18 P) {c : CCtx} {Lb : Str → Prop} {U : List (Str × Str × Nat)} (hc : COk c Lb U) (n : Nat) (lab : Str) (l : List Sel) (s : CSt) (hl : ∀ x, x ∈ l → EntOk Lb ⟨x, lab⟩) (hll : l.length ≤ 140737488355328) (hf : Full s.out)
    (hn : selsN l + phi c.q s.done U ≤ n) (hB : cnt s.out + phi c.q s.done U + selsN l ≤ 549755813888)
    (ih : ∀ e s, EntOk Lb e → Full s.out → selN e.sel + phi c.q s.done U ≤ n → cnt s.out + phi c.q s.done U + selN e.sel ≤ 549755813888 → EntC P c n e s) : SelsC P c n lab l s := by
  unfold SelsC
  generalize hR : selsF c n lab l s = R
  refine FnOk.run H.i40 H.mixed rfl rfl ?_
  refine fR rfl ?_
  refine lM rfl rfl rfl ?_
  refine fM rfl ?_
  refine rList l (fun i (q : CSt) => { env := [(0, .ptr 0 0), (2, .t (.str lab)), (8, .t (.lst (l.map Sel.enc))), (9, .t (.int .i64 l.length)), (10, .t (.int .i64 i))], s := ⟨CS c q, 4⟩ }) (fun r i q => Full q.out ∧ selsF c n lab r q = R ∧ selsN r + phi c.q q.done U ≤ n ∧ cnt q.out + phi c.q q.done U + selsN r ≤ 549755813888) 4 s rfl ⟨hf, hR, hn, hB⟩ rfl rfl rfl ?_ ?_
  · rintro q ⟨hq, hqR, _, _⟩
    have e : q = R := hqR
    subst e
    refine fR rfl ?_
    refine Run.condF rfl rfl (by simp) ?_
    skip
    refine Run.fin rfl (EndOk.chg rfl rfl (.le (.same rfl)) (CS_fin (ex := [])))
  · rintro i x r q h1 hi hd ⟨hq, hqR, hqn, hqB⟩ ihl
    have hx := hl x (List.mem_of_getElem? h1)
    simp only [selsN] at hqn hqB
    have hent := ih ⟨x, lab⟩ q hx hq (by simp only; omega) (by simp only; omega)
    have hp := ent_post hc n ⟨x, lab⟩ q hx hq
    have hp1 : cnt (entF c n ⟨x, lab⟩ q).out + phi c.q (entF c n ⟨x, lab⟩ q).done U ≤ cnt q.out + phi c.q q.done U + selN x := hp.n
    have hp2 : phi c.q (entF c n ⟨x, lab⟩ q).done U ≤ phi c.q q.done U := hp.p
    unfold EntC at hent
    refine fR rfl ?_
    refine Run.condT rfl rfl (by simp; omega) ?_
    refine fR rfl ?_
    refine Mid.elemMapC (Sel.enc_eq x) rfl rfl rfl h1 rfl rfl ?_
    refine fM rfl ?_
    refine Mid.callR [0, 1, 2, 3] (hent) rfl rfl rfl rfl CS_bd (by repeat' (first | exact trivial | exact rfl | refine And.intro ?_ ?_ | exact (congrArg some (AObj.ren_mE _ _ _ _ _ _)).symm | exact (congrArg some (AObj.ren_cE _ _ _)).symm | (refine (congrArg some (AObj.ren_gE ?_ _ _)).symm; intro _; rfl))) rfl rfl (ob' := CS c (entF c n ⟨x, lab⟩ q)) (CS_ren) rfl rfl ?_
    refine fM rfl ?_
    refine aL rfl rfl rfl rfl rfl ?_
    refine fM rfl ?_
    exact rWeak 4 rfl (ihl (entF c n ⟨x, lab⟩ q) ⟨hp.f, hqR, by omega, by omega⟩) rfl rfl rfl
theorem ent_step (H : Pr18 P) {c : CCtx} {Lb : Str → Prop} {U : List (Str × Str × Nat)} (hc : COk c Lb U) (n : Nat) (e : Ent) (s : CSt) (he : EntOk Lb e) (hf : Full s.out)
    (hn : selN e.sel + phi c.q s.done U ≤ n + 1) (hB : cnt s.out + phi c.q s.done U + selN e.sel ≤ 549755813888)
    (ih : ∀ lab l s, (∀ x, x ∈ l → EntOk Lb ⟨x, lab⟩) → l.length ≤ 140737488355328 → Full s.out → selsN l + phi c.q s.done U ≤ n → cnt s.out + phi c.q s.done U + selsN l ≤ 549755813888 → SelsC P c n lab l s) : EntC P c (n + 1) e s := by
  unfold EntC
  have hso := he.s
  have hfl := hf.len
  have hd : DirsOk e.sel.dirs := ⟨hso.dl, fun x hx => (hso.d x hx).1⟩
  rw [selN_eq] at hn hB
  simp only [entF]
  generalize hL : labF e.lab e.sel.dirs = lb
  have hlab := label_ok H e.sel.dirs hd e.lab
  rw [hL] at hlab
  refine FnOk.run H.i28 H.mixed rfl rfl ?_
  refine fR rfl ?_
  refine Mid.call (included_ok H e.sel.dirs hd c.vars hc.vars) rfl rfl rfl rfl ?_
  refine fM rfl ?_
  cases hi : incF c.vars e.sel.dirs with
  | false =>
    simp only [if_true]
    refine Run.condT rfl rfl rfl ?_
    skip
    exact Run.fin rfl (EndOk.chg rfl rfl (.le (.same rfl)) (CS_fin (ex := [_])))
  | true =>
    simp only [Bool.true_eq_false, if_false]
    refine Run.condF rfl rfl rfl ?_
    refine fR rfl ?_
    by_cases hk : e.sel.kind = 3
    · simp only [hk, if_true]
      rw [← hk]
      refine Run.condT rfl rfl (by simp [hk]) ?_
      refine fR rfl ?_
      refine caG rfl rfl (fun hg => ⟨_, rfl, is_ok H.toPr c.ds hc.ds c.on e.sel.on, rfl⟩) rfl rfl ?_
      refine fM rfl ?_
      refine Run.cond rfl rfl (fun hh => ?_) (fun hh => ?_)
      · have h2 : e.sel.on = [] ∨ isF c.ds c.on e.sel.on = true := by simpa using hh
        rw [if_pos h2]
        have hs := ih lb e.sel.sels s (fun x hx => hL ▸ ent_sub he x hx) (by have := hso.sl; omega) hf (by omega) (by omega)
        unfold SelsC at hs
        refine fR rfl ?_
        refine Mid.call (hlab) rfl rfl rfl rfl ?_
        skip
        refine Mid.callR [0, 1, 2, 3] (hs) rfl rfl rfl rfl CS_bd (by repeat' (first | exact trivial | exact rfl | refine And.intro ?_ ?_ | exact (congrArg some (AObj.ren_mE _ _ _ _ _ _)).symm | exact (congrArg some (AObj.ren_cE _ _ _)).symm | (refine (congrArg some (AObj.ren_gE ?_ _ _)).symm; intro _; rfl))) rfl rfl (ob' := CS c (selsF c n lb e.sel.sels s)) (CS_ren) rfl rfl ?_
        refine fM rfl ?_
        exact Run.fin rfl (EndOk.chg rfl rfl (.le (.same rfl)) (CS_fin (s := selsF c n lb e.sel.sels s) (ex := [_])))
      · have h2 : ¬ (e.sel.on = [] ∨ isF c.ds c.on e.sel.on = true) := by simpa using hh
        rw [if_neg h2]
        skip
        exact Run.fin rfl (EndOk.chg rfl rfl (.le (.same rfl)) (CS_fin (ex := [_])))
    · simp only [hk, if_false]
      refine Run.condF rfl rfl (by simp [hk]) ?_
      refine fR rfl ?_
      by_cases hk2 : e.sel.kind = 2
      · simp only [hk2, if_true]
        rw [← hk2]
        have hfd := qfind_ok H.toPr13 c.q hc.q e.sel.name
        refine Run.condT rfl rfl (by simp [hk2]) ?_
        refine fR rfl ?_
        refine Mid.call (hfd) rfl rfl rfl rfl ?_
        refine fM rfl ?_
        refine Mid.call (hlab) rfl rfl rfl rfl ?_
        refine fM rfl ?_
        refine caG rfl rfl (fun hg => ⟨_, rfl, is_ok H.toPr c.ds hc.ds c.on ((findFrag e.sel.name c.q.frags).getD Frag.zero).on, rfl⟩) rfl rfl ?_
        refine fM rfl ?_
        refine Mid.lookTG (((e.sel.name, lb) : Str × Str)) rfl rfl rfl rfl rfl rfl (markE_ok) (by (repeat' (first | exact trivial | exact Bool.not_or_self _ | exact grd1 _ | exact grd2 _ | exact grd3 _ _ | exact grd4 _ _ | refine And.intro ?_ ?_ | exact rfl | (simp; done) | (simp <;> omega))); done) (by (repeat' (first | exact trivial | exact Bool.not_or_self _ | exact grd1 _ | exact grd2 _ | exact grd3 _ _ | exact grd4 _ _ | refine And.intro ?_ ?_ | exact rfl | (simp; done) | (simp <;> omega))); done) rfl ?_
        refine fM rfl ?_
        rw [kget_done]
        cases hfr : findFrag e.sel.name c.q.frags with
        | none =>
          refine Run.condF rfl rfl rfl ?_
          skip
          exact Run.fin rfl (EndOk.chg rfl rfl (.le (.same rfl)) (CS_fin (ex := [_, _, _])))
        | some f =>
          simp only [Option.getD_some, Option.isSome_some]
          by_cases hh : isF c.ds c.on f.on = true ∧ ¬ (e.sel.name, lb) ∈ s.done
          · rw [if_pos hh]
            have hU := hc.mark _ f lb hfr (hL ▸ he.l.l _ he.o)
            have hph := phi_note (q := c.q) hh.2 hU
            have hfo := (hc.q.f f (findFrag_mem hfr)).s.1
            have hs := ih lb f.sels ⟨s.out, s.done ++ [(e.sel.name, lb)]⟩ (fun x hx => hL ▸ ent_frag hc he hfr x hx) (by omega) hf (by simp only; omega) (by simp only; omega)
            unfold SelsC at hs
            refine Run.condT rfl rfl (by simp [hh.1, hh.2]) ?_
            refine fR rfl ?_
            refine Mid.mapT (((e.sel.name, lb) : Str × Str)) rfl rfl rfl rfl (markE_ok) rfl ?_
            refine fM rfl ?_
            rw [kset_done hh.2]
            refine Mid.callR [0, 1, 2, 3] (hs) rfl rfl rfl rfl CS_bd (by repeat' (first | exact trivial | exact rfl | refine And.intro ?_ ?_ | exact (congrArg some (AObj.ren_mE _ _ _ _ _ _)).symm | exact (congrArg some (AObj.ren_cE _ _ _)).symm | (refine (congrArg some (AObj.ren_gE ?_ _ _)).symm; intro _; rfl))) rfl rfl (ob' := CS c (selsF c n lb f.sels ⟨s.out, s.done ++ [(e.sel.name, lb)]⟩)) (CS_ren) rfl rfl ?_
            refine fM rfl ?_
            exact Run.fin rfl (EndOk.chg rfl rfl (.le (.same rfl)) (CS_fin (s := selsF c n lb f.sels ⟨s.out, s.done ++ [(e.sel.name, lb)]⟩) (ex := [_, _, _])))
          · rw [if_neg hh]
            refine Run.condF rfl rfl ?_ ?_
            · cases h1 : isF c.ds c.on f.on with
              | false => simp
              | true =>
                have : (e.sel.name, lb) ∈ s.done := by
                  apply Classical.byContradiction
                  intro h2; exact hh ⟨h1, h2⟩
                simp [this]
            skip
            exact Run.fin rfl (EndOk.chg rfl rfl (.le (.same rfl)) (CS_fin (ex := [_, _, _])))
      · simp only [hk2, if_false]
        have hfo := field_ok H c s e (by omega) (fun g hg => by have := cnt_mem hg; omega)
        refine Run.condF rfl rfl (by simp [hk2]) ?_
        refine fR rfl ?_
        refine Mid.callR [0, 1, 2, 3] (hfo) rfl rfl rfl rfl CS_bd (by repeat' (first | exact trivial | exact rfl | refine And.intro ?_ ?_ | exact (congrArg some (AObj.ren_mE _ _ _ _ _ _)).symm | exact (congrArg some (AObj.ren_cE _ _ _)).symm | (refine (congrArg some (AObj.ren_gE ?_ _ _)).symm; intro _; rfl))) rfl rfl (ob' := [(0, CO c (addF e s.out).length), (1, .gro (addF e s.out).length (gE gV (addF e s.out).zipIdx)), (3, .farr (gL (addF e s.out)))]) (FO_ren) rfl rfl ?_
        refine fM rfl ?_
        exact Run.fin rfl (EndOk.chg rfl rfl (.le (.same rfl)) (CS_fin (s := ⟨addF e s.out, s.done⟩) (ex := [_])))
theorem ent_ok (H : Pr18 P) {c : CCtx} {Lb : Str → Prop} {U : List (Str × Str × Nat)} (hc : COk c Lb U) : ∀ (n : Nat) (e : Ent) (s : CSt), EntOk Lb e → Full s.out → selN e.sel + phi c.q s.done U ≤ n → cnt s.out + phi c.q s.done U + selN e.sel ≤ 549755813888 → EntC P c n e s
  | 0, e, s, he, hf, hn, hB => by rw [selN_eq] at hn; omega
  | n + 1, e, s, he, hf, hn, hB => ent_step H hc n e s he hf hn hB fun lab l s hl hll hf hn hB => sels_step H hc n lab l s hl hll hf hn hB (ent_ok H hc n)
end Go.GB.C18


/-
  H18F: chapter 18: the reference computes what entries collect.
-/
namespace Go.GB.C18
open Go.GB Go.GB.C11
set_option linter.unusedSimpArgs false
set_option linter.unusedVariables false
set_option maxRecDepth 100000
set_option maxHeartbeats 8000000
variable {P : Program}
end Go.GB.C18


/-
  H18G: chapter 18: Fields of the program and of the reference.
-/
namespace Go.GB.C18
open Go.GB Go.GB.C11
set_option linter.unusedSimpArgs false
set_option linter.unusedVariables false
set_option maxRecDepth 100000
set_option maxHeartbeats 8000000
variable {P : Program}
def Grp.enc (g : Grp) : List T := [.str g.key, .lst (g.list.map Ent.enc)]
def gVk (k : Nat) (p : Grp × Nat) : List V := [.t (.str p.1.key), .fow k p.2 8 (p.1.list.map Ent.enc)]
theorem gVk_cells (k : Nat) : ∀ (l : List Grp) (i : Nat), (gE (gVk k) (l.zipIdx i)).mapM V.cell1 = some (l.map Grp.enc).flatten
  | [], i => rfl
  | g :: r, i => by
    have ih := gVk_cells k r (i + 1)
    simp only [List.zipIdx_cons, gE, List.map_cons, List.flatten_cons] at ih ⊢
    rw [List.mapM_append, ih]
    rfl
theorem out_freeze {s : S} {m k kf n : Nat} {l : List Grp} (hk : m ≤ k) (hs : aget s.sto k = some (.gro n (gE (gVk kf) l.zipIdx))) (hn : n = l.length) : LeR m s (.gsl k n 0 n 2) (.t (.lst (l.map Grp.enc))) := by
  subst hn
  have hlen := gE_length (f := gVk kf) (sz := 2) (fun _ => rfl) l.zipIdx
  simp only [List.length_zipIdx] at hlen
  refine LeZ.gsl (ts := (l.map Grp.enc).flatten) hk hs (by rw [hlen]; omega) ?_ rfl (by simp) (allLen_map (f := Grp.enc) (sz := 2) (fun _ => rfl) _)
  rw [List.drop_zero, List.take_of_length_le (by rw [hlen]; omega)]
  exact gVk_cells kf l 0
/-- entries one after the other -/
def entsF (c : CCtx) (n : Nat) (l : List Ent) (s : CSt) : CSt := l.foldl (fun s e => entF c n e s) s
def entsN : List Ent → Nat
  | [] => 0
  | e :: r => selN e.sel + entsN r
def COk' (c : CCtx) (n : Nat) : AObj := .cells [.t (.lst (c.ds.map Def.enc)), .t (.lst (c.q.ops.map Op.enc)), .t (.lst (c.q.frags.map Frag.enc)), .t (.str c.on), .t (.int .i64 c.vars.kind), .t (.int .i64 c.vars.int), .t (.str c.vars.text), .t (.lst (c.vars.items.map Val.enc)), .t (.lst (c.vars.keys.map sE)), .gsl 5 n 0 n 2, .mp 3]
def CS' (c : CCtx) (s : CSt) : List (Nat × AObj) := [(4, COk' c s.out.length), (5, .gro s.out.length (gE (gVk 6) s.out.zipIdx)), (3, .map true (mE markE T.bool (s.done.map fun m => (m, true))) none), (6, .farr (gL s.out))]
theorem CS_ren' {c : CCtx} {s : CSt} {b : Nat} : renOb (renF [4, 5, 3, 6] b) (CS c s) = CS' c s := by
  have h : ∀ p, V.rens (renF [4, 5, 3, 6] b) (gV p) = gVk 6 p := fun p => rfl
  simp only [CS, CO, CS', COk', renOb, AObj.ren_mE, AObj.ren_gE h]
  rfl
theorem fields_ok (H : Pr18 P) {c : CCtx} {Lb : Str → Prop} {U : List (Str × Str × Nat)} (hc : COk c Lb U) (n : Nat) (l : List Ent) (hl : ∀ e, e ∈ l → EntOk Lb e) (hll : l.length ≤ 140737488355328) (hn : entsN l + phi c.q [] U ≤ n) (hB : phi c.q [] U + entsN l ≤ 549755813888) :
    FnOk P 12 [docV c.ds, c.q.v, .t (.str c.on), .t (.lst (l.map Ent.enc)), c.vars.v] ⟨[], 0⟩ { v := .t (.lst ((entsF c n l ⟨[], []⟩).out.map Grp.enc)) } := by
  generalize hR : entsF c n l ⟨[], []⟩ = R
  refine FnOk.run H.i12 H.mixed rfl rfl ?_
  refine fR rfl ?_
  refine Mid.mkmapT markE T.bool rfl ?_
  refine fM rfl ?_
  refine lM rfl rfl rfl ?_
  refine fM rfl ?_
  refine rList l (fun i (q : CSt) => { env := [(11, .ptr 4 0), (21, .t (.lst (l.map Ent.enc))), (22, .t (.int .i64 l.length)), (23, .t (.int .i64 i))], s := ⟨CS' c q, 7⟩ }) (fun r i q => Full q.out ∧ entsF c n r q = R ∧ entsN r + phi c.q q.done U ≤ n ∧ cnt q.out + phi c.q q.done U + entsN r ≤ 549755813888) 5 ⟨[], []⟩ rfl ⟨(fun g hg => by cases hg), hR, hn, by simpa [cnt] using hB⟩ rfl rfl rfl ?_ ?_
  · rintro q ⟨hq, hqR, _, _⟩
    have e : q = R := hqR
    subst e
    refine fR rfl ?_
    refine Run.condF rfl rfl (by simp) ?_
    refine fR rfl ?_
    refine Run.fin rfl (EndOk.go ?_); exact out_freeze (Nat.zero_le _) rfl rfl
  · rintro i x r q h1 hi hd ⟨hq, hqR, hqn, hqB⟩ ihl
    have hx := hl x (List.mem_of_getElem? h1)
    simp only [entsN] at hqn hqB
    have hent := ent_ok H hc n x q hx hq (by omega) (by omega)
    have hp := ent_post hc n x q hx hq
    have hp1 := hp.n
    have hp2 := hp.p
    unfold EntC at hent
    refine fR rfl ?_
    refine Run.condT rfl rfl (by simp; omega) ?_
    refine fR rfl ?_
    refine Mid.elemMap rfl rfl rfl h1 rfl rfl ?_
    refine fM rfl ?_
    refine Mid.callR [4, 5, 3, 6] (hent) rfl rfl rfl rfl CS_bd (by repeat' (first | exact trivial | exact rfl | refine And.intro ?_ ?_ | exact (congrArg some (AObj.ren_mE _ _ _ _ _ _)).symm | exact (congrArg some (AObj.ren_cE _ _ _)).symm | (refine (congrArg some (AObj.ren_gE ?_ _ _)).symm; intro _; rfl))) rfl rfl (ob' := CS' c (entF c n x q)) (CS_ren') rfl rfl ?_
    refine fM rfl ?_
    refine aL rfl rfl rfl rfl rfl ?_
    refine fM rfl ?_
    exact rWeak 7 rfl (ihl (entF c n x q) ⟨hp.f, hqR, by omega, by omega⟩) rfl rfl rfl
end Go.GB.C18


/-
  H18H: chapter 18: sizes of documents; whether a case is small.
-/
namespace Go.GB.C18
open Go.GB Go.GB.C11
set_option linter.unusedSimpArgs false
set_option linter.unusedVariables false
set_option maxRecDepth 100000
set_option maxHeartbeats 8000000
variable {P : Program}
mutual
def szV : Val → Int
  | .mk _ _ _ its _ => szL 1 its
def szL : Int → List Val → Int
  | n, [] => n
  | n, x :: r => szL (IntKind.i64.wrap (n + szV x)) r
end
theorem szV_eq (v : Val) : szV v = szL 1 v.items := by cases v; rfl
def SizeC (P : Program) (v : Val) : Prop := FnOk P 58 [v.v] ⟨[], 0⟩ { v := .t (.int .i64 (szV v)) }
theorem size_step (H : Pr18 P) (v : Val) (hv : v.Ok) (hrec : ∀ x, x ∈ v.items → SizeC P x) : SizeC P v := by
  have hil := hv.il
  unfold SizeC
  rw [szV_eq]
  refine FnOk.run H.i58 H.mixed rfl rfl ?_
  refine fR rfl ?_
  refine rList v.items (fun i (n : Int) => { env := [(1, .ptr 0 0), (3, .t (.int .i64 n)), (4, .t (.int .i64 i))], s := ⟨[(0, (.cells [.t (.int .i64 v.kind), .t (.int .i64 v.int), .t (.str v.text), .t (.lst (v.items.map Val.enc)), .t (.lst (v.keys.map sE))]))], 1⟩ }) (fun r i n => szL 1 v.items = szL n r) 1 (1 : Int) rfl rfl rfl rfl rfl ?_ ?_
  · rintro n hinv
    rw [hinv]
    refine fR rfl ?_
    refine lM rfl rfl rfl ?_
    refine fM rfl ?_
    refine Run.condF rfl rfl (by simp) ?_
    refine fR rfl ?_
    refine Run.fin rfl (EndOk.go ?_); exact .t rfl
  · rintro i x r n h1 hi hd hinv ih
    have hc := hrec x (List.mem_of_getElem? h1)
    unfold SizeC at hc
    refine fR rfl ?_
    refine lM rfl rfl rfl ?_
    refine fM rfl ?_
    refine Run.condT rfl rfl (by simp; omega) ?_
    refine fR rfl ?_
    refine Mid.elemMapC (Val.enc_eq x) rfl rfl rfl h1 rfl rfl ?_
    refine fM rfl ?_
    refine Mid.call (hc) rfl rfl rfl rfl ?_
    refine p0 rfl ?_
    refine fM rfl ?_
    refine aL rfl rfl rfl rfl rfl ?_
    refine fM rfl ?_
    exact rWeak 1 rfl (ih (IntKind.i64.wrap (n + szV x)) (by rw [hinv]; simp only [szL])) rfl rfl rfl
theorem size_ok' (H : Pr18 P) : ∀ (k : Nat) (v : Val), SizeOf.sizeOf v ≤ k → v.Ok → SizeC P v
  | 0, v, h, _ => by cases v; simp at h
  | k + 1, v, h, hv => size_step H v hv fun x hx => size_ok' H k x (by have := Val.size_items v hx; omega) (hv.it x hx)
theorem size_ok (H : Pr18 P) (v : Val) (hv : v.Ok) : FnOk P 58 [v.v] ⟨[], 0⟩ { v := .t (.int .i64 (szV v)) } := size_ok' H _ v (Nat.le_refl _) hv
def argW (most : Int) : Int → List Arg → Int
  | n, [] => n
  | n, a :: r => if n ≤ most then argW most (IntKind.i64.wrap (n + szV a.val)) r else n
mutual
def selW (most n : Int) : Sel → Int
  | .mk _ _ _ _ ar ds ss => IntKind.i64.wrap (argW most (IntKind.i64.wrap (IntKind.i64.wrap (IntKind.i64.wrap (n + 1) + ar.length) + ds.length)) ar + selsW (IntKind.i64.wrap (most - argW most (IntKind.i64.wrap (IntKind.i64.wrap (IntKind.i64.wrap (n + 1) + ar.length) + ds.length)) ar)) 0 ss)
def selsW (most n : Int) : List Sel → Int
  | [] => n
  | x :: r => if n ≤ most then selsW most (selW most n x) r else n
end
theorem selW_eq (most n : Int) (s : Sel) : selW most n s = IntKind.i64.wrap (argW most (IntKind.i64.wrap (IntKind.i64.wrap (IntKind.i64.wrap (n + 1) + s.args.length) + s.dirs.length)) s.args + selsW (IntKind.i64.wrap (most - argW most (IntKind.i64.wrap (IntKind.i64.wrap (IntKind.i64.wrap (n + 1) + s.args.length) + s.dirs.length)) s.args)) 0 s.sels) := by cases s; rfl
def WeighC (P : Program) (l : List Sel) : Prop := ∀ most : Int, FnOk P 39 [.t (.lst (l.map Sel.enc)), .t (.int .i64 most)] ⟨[], 0⟩ { v := .t (.int .i64 (selsW most 0 l)) }
theorem weigh_step (H : Pr18 P) (l : List Sel) (hll : l.length ≤ 140737488355328) (hok : ∀ x, x ∈ l → x.Ok) (hrec : ∀ x, x ∈ l → WeighC P x.sels) : WeighC P l := by
  intro most
  refine FnOk.run H.i39 H.mixed rfl rfl ?_
  refine fR rfl ?_
  refine rList l (fun i (n : Int) => { env := [(0, .t (.lst (l.map Sel.enc))), (1, .t (.int .i64 most)), (5, .t (.int .i64 n)), (6, .t (.int .i64 i))], s := ⟨[], 0⟩ }) (fun r i n => selsW most 0 l = selsW most n r) 0 (0 : Int) rfl rfl rfl rfl rfl ?_ ?_
  · rintro n hinv
    rw [hinv]
    refine fR rfl ?_
    refine lM rfl rfl rfl ?_
    refine fM rfl ?_
    refine Run.condF rfl rfl (by simp) ?_
    refine fR rfl ?_
    refine Run.fin rfl (EndOk.go ?_); exact .t rfl
  · rintro i x r n h1 hi hd hinv ih
    have hx := hok x (List.mem_of_getElem? h1)
    have hw := hrec x (List.mem_of_getElem? h1)
    have hal := hx.arl
    have hdl := hx.dl
    refine fR rfl ?_
    refine lM rfl rfl rfl ?_
    refine fM rfl ?_
    by_cases hm : n ≤ most
    · refine Run.condT rfl rfl (by simp [hm]; omega) ?_
      refine fR rfl ?_
      refine p0 rfl ?_
      refine fM rfl ?_
      refine Mid.elemMapC (Sel.enc_eq x) rfl rfl rfl h1 rfl rfl ?_
      refine fM rfl ?_
      refine lM rfl rfl rfl ?_
      refine p0 rfl ?_
      refine fM rfl ?_
      refine Mid.elemMapC (Sel.enc_eq x) rfl rfl rfl h1 rfl rfl ?_
      refine fM rfl ?_
      refine lM rfl rfl rfl ?_
      refine p0 rfl ?_
      refine fM rfl ?_
      have hsw := selW_eq most n x
      generalize hn1 : IntKind.i64.wrap (IntKind.i64.wrap (IntKind.i64.wrap (n + 1) + (x.args.length : Int)) + (x.dirs.length : Int)) = n1 at hsw
      refine rList x.args (fun j (q : Int) => { env := [(0, .t (.lst (l.map Sel.enc))), (1, .t (.int .i64 most)), (5, .t (.int .i64 q)), (6, .t (.int .i64 i)), (7, .t (.int .i64 j))], s := ⟨[], 0⟩ }) (fun ra j q => argW most n1 x.args = argW most q ra) 0 n1 rfl rfl rfl rfl rfl ?_ ?_
      · rintro q hq
        have hq' : argW most n1 x.args = q := hq
        rw [hq'] at hsw
        refine fR rfl ?_
        refine Mid.elemMapC (Sel.enc_eq x) rfl rfl rfl h1 rfl rfl ?_
        refine fM rfl ?_
        refine lM rfl rfl rfl ?_
        refine fM rfl ?_
        refine Run.condF rfl rfl (by simp) ?_
        refine fR rfl ?_
        refine Mid.elemMapC (Sel.enc_eq x) rfl rfl rfl h1 rfl rfl ?_
        refine fM rfl ?_
        refine p0 rfl ?_
        refine Mid.call (hw (IntKind.i64.wrap (most - q))) rfl rfl rfl rfl ?_
        refine p0 rfl ?_
        refine fM rfl ?_
        refine aL rfl rfl rfl rfl rfl ?_
        refine fM rfl ?_
        exact rWeak 0 rfl (ih (selW most n x) (by rw [hinv]; simp only [selsW, if_pos hm])) rfl rfl rfl (he := (by repeat' (first | exact trivial | exact LeX.t | exact LeX.top | exact LeX.nilOwn (Nat.le_of_ble_eq_true rfl) (Nat.le_of_ble_eq_true rfl) | exact LeX.ownT | exact LeX.nilT | exact LeX.same rfl | exact LeX.tEq (by simp[hsw]) | exact LeX.ownEq (by simp[hsw]) (Nat.le_of_ble_eq_true rfl) | exact LeX.tEq (by congr 1 <;> omega) | exact Or.inr ⟨Nat.le_of_ble_eq_true rfl, Nat.le_of_ble_eq_true rfl, rfl⟩ | refine Or.inl ⟨Nat.le_of_ble_eq_true rfl, _, rfl, ?_⟩ | refine LeO.cells ?_ | exact LeO.arr rfl | exact LeO.arr (by simp[hsw]) | exact LeO.mE (by first | rfl | simp[hsw]) (by first | exact Or.inl rfl | exact Or.inr rfl) | exact LeO.cE (by first | rfl | simp[hsw]) | exact LeXs.cE (by first | rfl | simp[hsw]) | refine LeO.map (by first | rfl | simp) ?_ (by first | exact Or.inl rfl | exact Or.inr rfl) | exact LeO.iter (by first | rfl | simp) (Nat.le_of_ble_eq_true rfl) | refine LeXs.cons ?_ ?_ | exact LeXs.nil | refine And.intro ?_ ?_))) (hs := (by repeat' (first | exact trivial | exact LeX.t | exact LeX.top | exact LeX.nilOwn (Nat.le_of_ble_eq_true rfl) (Nat.le_of_ble_eq_true rfl) | exact LeX.ownT | exact LeX.nilT | exact LeX.same rfl | exact LeX.tEq (by simp[hsw]) | exact LeX.ownEq (by simp[hsw]) (Nat.le_of_ble_eq_true rfl) | exact LeX.tEq (by congr 1 <;> omega) | exact Or.inr ⟨Nat.le_of_ble_eq_true rfl, Nat.le_of_ble_eq_true rfl, rfl⟩ | refine Or.inl ⟨Nat.le_of_ble_eq_true rfl, _, rfl, ?_⟩ | refine LeO.cells ?_ | exact LeO.arr rfl | exact LeO.arr (by simp[hsw]) | exact LeO.mE (by first | rfl | simp[hsw]) (by first | exact Or.inl rfl | exact Or.inr rfl) | exact LeO.cE (by first | rfl | simp[hsw]) | exact LeXs.cE (by first | rfl | simp[hsw]) | refine LeO.map (by first | rfl | simp) ?_ (by first | exact Or.inl rfl | exact Or.inr rfl) | exact LeO.iter (by first | rfl | simp) (Nat.le_of_ble_eq_true rfl) | refine LeXs.cons ?_ ?_ | exact LeXs.nil | refine And.intro ?_ ?_)))
      · rintro j a ra q g1 gi gd gq ihq
        have ha := (hx.ar a (List.mem_of_getElem? g1)).1
        refine fR rfl ?_
        refine Mid.elemMapC (Sel.enc_eq x) rfl rfl rfl h1 rfl rfl ?_
        refine fM rfl ?_
        refine lM rfl rfl rfl ?_
        refine fM rfl ?_
        by_cases hqm : q ≤ most
        · refine Run.condT rfl rfl (by simp [hqm]; omega) ?_
          refine fR rfl ?_
          refine Mid.elemMapC (Sel.enc_eq x) rfl rfl rfl h1 rfl rfl ?_
          refine fM rfl ?_
          refine Mid.elemMap rfl rfl rfl g1 rfl rfl ?_
          refine fM rfl ?_
          refine Mid.call (size_ok H a.val ha) rfl rfl rfl rfl ?_
          refine p0 rfl ?_
          refine fM rfl ?_
          refine aL rfl rfl rfl rfl rfl ?_
          refine fM rfl ?_
          exact rWeak 0 rfl (ihq (IntKind.i64.wrap (q + szV a.val)) (by rw [gq]; simp only [argW, if_pos hqm])) rfl rfl rfl
        · have hq' : argW most n1 x.args = q := by rw [gq]; simp only [argW, if_neg hqm]
          rw [hq'] at hsw
          refine Run.condF rfl rfl (by simp; omega) ?_
          refine fR rfl ?_
          refine Mid.elemMapC (Sel.enc_eq x) rfl rfl rfl h1 rfl rfl ?_
          refine fM rfl ?_
          refine p0 rfl ?_
          refine Mid.call (hw (IntKind.i64.wrap (most - q))) rfl rfl rfl rfl ?_
          refine p0 rfl ?_
          refine fM rfl ?_
          refine aL rfl rfl rfl rfl rfl ?_
          refine fM rfl ?_
          exact rWeak 0 rfl (ih (selW most n x) (by rw [hinv]; simp only [selsW, if_pos hm])) rfl rfl rfl (he := (by repeat' (first | exact trivial | exact LeX.t | exact LeX.top | exact LeX.nilOwn (Nat.le_of_ble_eq_true rfl) (Nat.le_of_ble_eq_true rfl) | exact LeX.ownT | exact LeX.nilT | exact LeX.same rfl | exact LeX.tEq (by simp[hsw]) | exact LeX.ownEq (by simp[hsw]) (Nat.le_of_ble_eq_true rfl) | exact LeX.tEq (by congr 1 <;> omega) | exact Or.inr ⟨Nat.le_of_ble_eq_true rfl, Nat.le_of_ble_eq_true rfl, rfl⟩ | refine Or.inl ⟨Nat.le_of_ble_eq_true rfl, _, rfl, ?_⟩ | refine LeO.cells ?_ | exact LeO.arr rfl | exact LeO.arr (by simp[hsw]) | exact LeO.mE (by first | rfl | simp[hsw]) (by first | exact Or.inl rfl | exact Or.inr rfl) | exact LeO.cE (by first | rfl | simp[hsw]) | exact LeXs.cE (by first | rfl | simp[hsw]) | refine LeO.map (by first | rfl | simp) ?_ (by first | exact Or.inl rfl | exact Or.inr rfl) | exact LeO.iter (by first | rfl | simp) (Nat.le_of_ble_eq_true rfl) | refine LeXs.cons ?_ ?_ | exact LeXs.nil | refine And.intro ?_ ?_))) (hs := (by repeat' (first | exact trivial | exact LeX.t | exact LeX.top | exact LeX.nilOwn (Nat.le_of_ble_eq_true rfl) (Nat.le_of_ble_eq_true rfl) | exact LeX.ownT | exact LeX.nilT | exact LeX.same rfl | exact LeX.tEq (by simp[hsw]) | exact LeX.ownEq (by simp[hsw]) (Nat.le_of_ble_eq_true rfl) | exact LeX.tEq (by congr 1 <;> omega) | exact Or.inr ⟨Nat.le_of_ble_eq_true rfl, Nat.le_of_ble_eq_true rfl, rfl⟩ | refine Or.inl ⟨Nat.le_of_ble_eq_true rfl, _, rfl, ?_⟩ | refine LeO.cells ?_ | exact LeO.arr rfl | exact LeO.arr (by simp[hsw]) | exact LeO.mE (by first | rfl | simp[hsw]) (by first | exact Or.inl rfl | exact Or.inr rfl) | exact LeO.cE (by first | rfl | simp[hsw]) | exact LeXs.cE (by first | rfl | simp[hsw]) | refine LeO.map (by first | rfl | simp) ?_ (by first | exact Or.inl rfl | exact Or.inr rfl) | exact LeO.iter (by first | rfl | simp) (Nat.le_of_ble_eq_true rfl) | refine LeXs.cons ?_ ?_ | exact LeXs.nil | refine And.intro ?_ ?_)))
    · refine Run.condF rfl rfl (by simp; omega) ?_
      refine fR rfl ?_
      refine Run.fin rfl (EndOk.go ?_); exact .t (by rw [hinv]; simp only [selsW, if_neg hm])
theorem weigh_ok' (H : Pr18 P) : ∀ (k : Nat) (l : List Sel), SizeOf.sizeOf l ≤ k → l.length ≤ 140737488355328 → (∀ x, x ∈ l → x.Ok) → WeighC P l
  | 0, l, h, _, _ => by cases l <;> simp at h
  | k + 1, l, h, hl, ho => weigh_step H l hl ho fun x hx => weigh_ok' H k x.sels (by have h1 := List.sizeOf_lt_of_mem hx; have h2 := Sel.size_sels x; omega) (by have := (ho x hx).sl; omega) (ho x hx).s
theorem weigh_ok (H : Pr18 P) (l : List Sel) (hl : l.length ≤ 140737488355328) (ho : ∀ x, x ∈ l → x.Ok) (most : Int) : FnOk P 39 [.t (.lst (l.map Sel.enc)), .t (.int .i64 most)] ⟨[], 0⟩ { v := .t (.int .i64 (selsW most 0 l)) } := weigh_ok' H _ l (Nat.le_refl _) hl ho most
def opsW : Int → List Op → Int
  | n, [] => n
  | n, x :: r => if n ≤ 600 then opsW (IntKind.i64.wrap (IntKind.i64.wrap (n + x.vars.length) + selsW 600 0 x.sels)) r else n
def frsW : Int → List Frag → Int
  | n, [] => n
  | n, x :: r => if n ≤ 600 then frsW (IntKind.i64.wrap (n + selsW 600 0 x.sels)) r else n
def bigF (q : Query) : Bool := decide (frsW (opsW ((q.ops.length + q.frags.length : Nat) : Int) q.ops) q.frags > 600)
theorem big_ok (H : Pr18 P) (q : Query) (hq : q.Ok) : FnOk P 27 [q.v] ⟨[], 0⟩ { v := .t (.bool (bigF q)) } := by
  have hol := hq.ol
  have hfl := hq.fl
  unfold bigF
  refine FnOk.run H.i27 H.mixed rfl rfl ?_
  refine fR rfl ?_
  refine lM rfl rfl rfl ?_
  refine fM rfl ?_
  refine lM rfl rfl rfl ?_
  refine aN rfl rfl rfl ?_
  refine fM rfl ?_
  refine rList q.ops (fun i (n : Int) => { env := [(1, .ptr 0 0), (3, .t (.int .i64 n)), (4, .t (.int .i64 i))], s := ⟨[(0, .cells [.t (.lst (q.ops.map Op.enc)), .t (.lst (q.frags.map Frag.enc))])], 1⟩ }) (fun r i n => opsW ((q.ops.length + q.frags.length : Nat) : Int) q.ops = opsW n r) 1 ((q.ops.length + q.frags.length : Nat) : Int) rfl rfl rfl rfl rfl ?_ ?_
  · rintro n hn0
    have hn0 : opsW ((q.ops.length + q.frags.length : Nat) : Int) q.ops = n := hn0
    refine fR rfl ?_
    refine lM rfl rfl rfl ?_
    refine fM rfl ?_
    refine Run.condF rfl rfl (by simp) ?_
    refine fR rfl ?_
    refine rList q.frags (fun i (n : Int) => { env := [(1, .ptr 0 0), (3, .t (.int .i64 n)), (5, .t (.int .i64 i))], s := ⟨[(0, .cells [.t (.lst (q.ops.map Op.enc)), .t (.lst (q.frags.map Frag.enc))])], 1⟩ }) (fun r i n => frsW (opsW ((q.ops.length + q.frags.length : Nat) : Int) q.ops) q.frags = frsW n r) 1 n rfl (by rw [hn0]) rfl rfl rfl ?_ ?_
    · rintro n hinv
      have e : frsW (opsW ((q.ops.length + q.frags.length : Nat) : Int) q.ops) q.frags = n := hinv
      rw [e]
      refine fR rfl ?_
      refine lM rfl rfl rfl ?_
      refine fM rfl ?_
      refine Run.condF rfl rfl (by simp) ?_
      refine fR rfl ?_
      refine Run.fin rfl (EndOk.go ?_); exact .t rfl
    · rintro i x r n h1 hi hd hinv ih
      have hx := hq.f x (List.mem_of_getElem? h1)
      have hxs := hx.s.1
      refine fR rfl ?_
      refine lM rfl rfl rfl ?_
      refine fM rfl ?_
      by_cases hm : n ≤ 600
      · refine Run.condT rfl rfl (by simp [hm]; omega) ?_
        refine fR rfl ?_
        refine Mid.elemMap rfl rfl rfl h1 rfl rfl ?_
        refine fM rfl ?_
        refine Mid.call (weigh_ok H x.sels (by omega) hx.s.2 600) rfl rfl rfl rfl ?_
        refine p0 rfl ?_
        refine fM rfl ?_
        refine aL rfl rfl rfl rfl rfl ?_
        refine fM rfl ?_
        exact rWeak 1 rfl (ih (IntKind.i64.wrap (n + selsW 600 0 x.sels)) (by rw [hinv]; simp only [frsW, if_pos hm])) rfl rfl rfl
      · have e : frsW (opsW ((q.ops.length + q.frags.length : Nat) : Int) q.ops) q.frags = n := by rw [hinv]; simp only [frsW, if_neg hm]
        rw [e]
        refine Run.condF rfl rfl (by simp; omega) ?_
        refine fR rfl ?_
        refine Run.fin rfl (EndOk.go ?_); exact .t rfl
  · rintro i x r n h1 hi hd hinv ih
    have hx := hq.o x (List.mem_of_getElem? h1)
    have hxv := hx.vl
    have hxs := hx.s.1
    refine fR rfl ?_
    refine lM rfl rfl rfl ?_
    refine fM rfl ?_
    by_cases hm : n ≤ 600
    · refine Run.condT rfl rfl (by simp [hm]; omega) ?_
      refine fR rfl ?_
      refine Mid.elemMap rfl rfl rfl h1 rfl rfl ?_
      refine fM rfl ?_
      refine lM rfl rfl rfl ?_
      refine p0 rfl ?_
      refine fM rfl ?_
      refine Mid.elemMap rfl rfl rfl h1 rfl rfl ?_
      refine fM rfl ?_
      refine Mid.call (weigh_ok H x.sels (by omega) hx.s.2 600) rfl rfl rfl rfl ?_
      refine p0 rfl ?_
      refine fM rfl ?_
      refine aL rfl rfl rfl rfl rfl ?_
      refine fM rfl ?_
      exact rWeak 1 rfl (ih (IntKind.i64.wrap (IntKind.i64.wrap (n + x.vars.length) + selsW 600 0 x.sels)) (by rw [hinv]; simp only [opsW, if_pos hm])) rfl rfl rfl
    · have hn0 : opsW ((q.ops.length + q.frags.length : Nat) : Int) q.ops = n := by rw [hinv]; simp only [opsW, if_neg hm]
      refine Run.condF rfl rfl (by simp; omega) ?_
      refine fR rfl ?_
      refine rList q.frags (fun i (n : Int) => { env := [(1, .ptr 0 0), (3, .t (.int .i64 n)), (5, .t (.int .i64 i))], s := ⟨[(0, .cells [.t (.lst (q.ops.map Op.enc)), .t (.lst (q.frags.map Frag.enc))])], 1⟩ }) (fun r i n => frsW (opsW ((q.ops.length + q.frags.length : Nat) : Int) q.ops) q.frags = frsW n r) 1 n rfl (by rw [hn0]) rfl rfl rfl ?_ ?_
      · rintro n hinv
        have e : frsW (opsW ((q.ops.length + q.frags.length : Nat) : Int) q.ops) q.frags = n := hinv
        rw [e]
        refine fR rfl ?_
        refine lM rfl rfl rfl ?_
        refine fM rfl ?_
        refine Run.condF rfl rfl (by simp) ?_
        refine fR rfl ?_
        refine Run.fin rfl (EndOk.go ?_); exact .t rfl
      · rintro i x r n h1 hi hd hinv ih
        have hx := hq.f x (List.mem_of_getElem? h1)
        have hxs := hx.s.1
        refine fR rfl ?_
        refine lM rfl rfl rfl ?_
        refine fM rfl ?_
        by_cases hm : n ≤ 600
        · refine Run.condT rfl rfl (by simp [hm]; omega) ?_
          refine fR rfl ?_
          refine Mid.elemMap rfl rfl rfl h1 rfl rfl ?_
          refine fM rfl ?_
          refine Mid.call (weigh_ok H x.sels (by omega) hx.s.2 600) rfl rfl rfl rfl ?_
          refine p0 rfl ?_
          refine fM rfl ?_
          refine aL rfl rfl rfl rfl rfl ?_
          refine fM rfl ?_
          exact rWeak 1 rfl (ih (IntKind.i64.wrap (n + selsW 600 0 x.sels)) (by rw [hinv]; simp only [frsW, if_pos hm])) rfl rfl rfl
        · have e : frsW (opsW ((q.ops.length + q.frags.length : Nat) : Int) q.ops) q.frags = n := by rw [hinv]; simp only [frsW, if_neg hm]
          rw [e]
          refine Run.condF rfl rfl (by simp; omega) ?_
          refine fR rfl ?_
          refine Run.fin rfl (EndOk.go ?_); exact .t rfl
end Go.GB.C18


/-
  H18I: chapter 18: the law's own functions; lists and labels.
-/
namespace Go.GB.C18
open Go.GB Go.GB.C11
set_option linter.unusedSimpArgs false
set_option linter.unusedVariables false
set_option maxRecDepth 100000
set_option maxHeartbeats 8000000
variable {P : Program}
theorem entries_ok (H : Pr18 P) (l : List Ent) (hl : l.length * 144 ≤ 140737488355328) : FnOk P 13 [.t (.lst (l.map Ent.enc))] ⟨[], 0⟩ { v := .t (.lst (l.map Ent.enc)) } := by
  refine FnOk.run H.i13 H.mixed rfl rfl ?_
  refine fR rfl ?_
  refine rList l (fun i (B : List Ent) => { env := [(0, .t (.lst (l.map Ent.enc))), (3, .own 0 8 (B.map Ent.enc)), (4, .t (.int .i64 i))], s := ⟨[(0, .arr B.length)], 1⟩ }) (fun r i B => B.length = i ∧ B ++ r = l) 0 [] rfl ⟨rfl, rfl⟩ rfl rfl rfl ?_ ?_
  · rintro B ⟨_, hB⟩
    have e : B = l := by rw [← hB]; simp
    refine fR rfl ?_
    refine lM rfl rfl rfl ?_
    refine fM rfl ?_
    refine Run.condF rfl rfl (by simp) ?_
    refine fR rfl ?_
    refine Run.fin rfl (EndOk.go ?_); exact .own (by rw [e])
  · rintro i x r B h1 hi hd ⟨hBl, hB⟩ ih
    have hBl' : B.length = i := hBl
    refine fR rfl ?_
    refine lM rfl rfl rfl ?_
    refine fM rfl ?_
    refine Run.condT rfl rfl (by simp; omega) ?_
    refine fR rfl ?_
    refine Mid.elemMap rfl rfl rfl h1 rfl rfl ?_
    refine fM rfl ?_
    refine Mid.elemMap rfl rfl rfl h1 rfl rfl ?_
    refine fM rfl ?_
    refine apM Ent.enc B [x] rfl rfl rfl rfl rfl ?_ (h1 := by first | omega | (simp; omega) | (simp; done)) (h2 := by first | omega | (simp; omega) | (simp; done))
    refine fM rfl ?_
    refine aL rfl rfl rfl rfl rfl ?_
    refine fM rfl ?_
    exact rWeak 1 rfl (ih (B ++ [x]) ⟨by simp; omega, by rw [← hB]; simp⟩) rfl rfl rfl
theorem keys_ok (H : Pr18 P) (l : List Grp) (hl : l.length ≤ 549755813888) : FnOk P 19 [.t (.lst (l.map Grp.enc))] ⟨[], 0⟩ { v := .t (.lst ((l.map Grp.key).map sE)) } := by
  refine FnOk.run H.i19 H.mixed rfl rfl ?_
  refine fR rfl ?_
  refine rList l (fun i (B : List Str) => { env := [(0, .t (.lst (l.map Grp.enc))), (3, .own 0 1 (B.map sE)), (4, .t (.int .i64 i))], s := ⟨[(0, .arr B.length)], 1⟩ }) (fun r i B => B.length = i ∧ B ++ r.map Grp.key = l.map Grp.key) 0 [] rfl ⟨rfl, rfl⟩ rfl rfl rfl ?_ ?_
  · rintro B ⟨_, hB⟩
    have e : B = l.map Grp.key := by rw [← hB]; simp
    refine fR rfl ?_
    refine lM rfl rfl rfl ?_
    refine fM rfl ?_
    refine Run.condF rfl rfl (by simp) ?_
    refine fR rfl ?_
    refine Run.fin rfl (EndOk.go ?_); exact .own (by rw [e])
  · rintro i x r B h1 hi hd ⟨hBl, hB⟩ ih
    have hBl' : B.length = i := hBl
    refine fR rfl ?_
    refine lM rfl rfl rfl ?_
    refine fM rfl ?_
    refine Run.condT rfl rfl (by simp; omega) ?_
    refine fR rfl ?_
    refine Mid.elemMap rfl rfl rfl h1 rfl rfl ?_
    refine fM rfl ?_
    refine apM sE B [x.key] rfl rfl rfl rfl rfl ?_ (h1 := by first | omega | (simp; omega) | (simp; done)) (h2 := by first | omega | (simp; omega) | (simp; done))
    refine fM rfl ?_
    refine aL rfl rfl rfl rfl rfl ?_
    refine fM rfl ?_
    exact rWeak 1 rfl (ih (B ++ [x.key]) ⟨by simp; omega, by rw [← hB]; simp⟩) rfl rfl rfl
theorem has_ok (H : Pr18 P) (l : List Str) (hl : l.length ≤ 140737488355328) (s : Str) : FnOk P 20 [.t (.lst (l.map sE)), .t (.str s)] ⟨[], 0⟩ { v := .t (.bool (decide (s ∈ l))) } := by
  refine FnOk.run H.i20 H.mixed rfl rfl ?_
  refine fR rfl ?_
  refine rList l (fun i (_ : Unit) => { env := [(0, .t (.lst (l.map sE))), (1, .t (.str s)), (5, .t (.int .i64 i))], s := ⟨[], 0⟩ }) (fun r i _ => decide (s ∈ l) = decide (s ∈ r)) 0 () rfl rfl rfl rfl rfl ?_ ?_
  · rintro _ hinv
    rw [hinv]
    refine fR rfl ?_
    refine lM rfl rfl rfl ?_
    refine fM rfl ?_
    refine Run.condF rfl rfl (by simp) ?_
    refine fR rfl ?_
    refine Run.fin rfl (EndOk.go ?_); exact .t (by simp)
  · rintro i x r _ h1 hi hd hinv ih
    refine fR rfl ?_
    refine lM rfl rfl rfl ?_
    refine fM rfl ?_
    refine Run.condT rfl rfl (by simp; omega) ?_
    refine fR rfl ?_
    refine Mid.elemMap rfl rfl rfl h1 rfl rfl ?_
    refine fM rfl ?_
    refine Run.cond rfl rfl (fun hc => ?_) (fun hc => ?_)
    · have hx : x = s := by simpa using hc
      refine fR rfl ?_
      refine Run.fin rfl (EndOk.go ?_); exact .t (by rw [hinv]; simp [hx])
    · have hx : ¬ x = s := by simpa using hc
      refine fR rfl ?_
      refine aL rfl rfl rfl rfl rfl ?_
      refine fM rfl ?_
      exact rWeak 0 rfl (ih () (by rw [hinv]; simp [Ne.symm hx])) rfl rfl rfl
/- labels of groups -/
theorem lab0_ok (H : Pr18 P) (e : Ent) : FnOk P 32 [e.v] ⟨[], 0⟩ { v := .t (.bool (e.lab == [])) } := by
  refine FnOk.run H.i32 H.mixed rfl rfl ?_
  refine fR rfl ?_
  refine Run.fin rfl (EndOk.go ?_); exact .t rfl
def lidx : Int → List Ent → Int
  | _, [] => -1
  | i, e :: r => if e.lab = [] then i else lidx (i + 1) r
theorem lidx_any : ∀ (l : List Ent) (i : Int), 0 ≤ i → decide (lidx i l ≥ 0) = l.any (fun e => e.lab == [])
  | [], i, h => by simp [lidx]
  | e :: r, i, h => by
    have ih := lidx_any r (i + 1) (by omega)
    by_cases hp : e.lab = []
    · simp [lidx, hp, h]
    · simp only [lidx, if_neg hp, ih]; simp [hp]
theorem lfind_ok (H : Pr18 P) (l : List Ent) (hl : l.length ≤ 140737488355328) : FnOk P 52 [.t (.lst (l.map Ent.enc)), .t (.fn 32)] ⟨[], 0⟩ { v := .t (.int .i64 (lidx 0 l)) } := by
  refine FnOk.run H.i52 H.mixed rfl rfl ?_
  refine fR rfl ?_
  refine lM rfl rfl rfl ?_
  refine fM rfl ?_
  refine rList l (fun i (_ : Unit) => { env := [(0, .t (.lst (l.map Ent.enc))), (1, .t (.fn 32)), (7, .t (.int .i64 l.length)), (8, .t (.int .i64 i))], s := ⟨[], 0⟩ }) (fun r i _ => lidx 0 l = lidx i r) 0 () rfl rfl rfl rfl rfl ?_ ?_
  · rintro _ hinv
    rw [hinv]
    refine fR rfl ?_
    refine Run.condF rfl rfl (by simp) ?_
    refine fR rfl ?_
    refine Run.fin rfl (EndOk.go ?_); exact .t rfl
  · rintro i x r _ h1 hi hd hinv ih
    refine fR rfl ?_
    refine Run.condT rfl rfl (by simp; omega) ?_
    refine fR rfl ?_
    refine Mid.elemMap rfl rfl rfl h1 rfl rfl ?_
    refine fM rfl ?_
    refine Mid.callv0 rfl (lab0_ok H x) rfl rfl rfl rfl ?_
    refine fM rfl ?_
    refine Run.cond rfl rfl (fun hc => ?_) (fun hc => ?_)
    · have hx : x.lab = [] := by simpa using hc
      refine fR rfl ?_
      refine Run.fin rfl (EndOk.go ?_); exact .t (by rw [hinv]; simp [lidx, hx])
    · have hx : ¬ x.lab = [] := by simpa using hc
      refine fR rfl ?_
      refine aL rfl rfl rfl rfl rfl ?_
      refine fM rfl ?_
      exact rWeak 0 rfl (ih () (by rw [hinv]; simp only [lidx, if_neg hx]; rfl)) rfl rfl rfl
theorem lcont_ok (H : Pr18 P) (l : List Ent) (hl : l.length ≤ 140737488355328) : FnOk P 31 [.t (.lst (l.map Ent.enc)), .t (.fn 32)] ⟨[], 0⟩ { v := .t (.bool (l.any fun e => e.lab == [])) } := by
  refine FnOk.run H.i31 H.mixed rfl rfl ?_
  refine fR rfl ?_
  refine Mid.call (lfind_ok H l hl) rfl rfl rfl rfl ?_
  refine fM rfl ?_
  refine Run.fin rfl (EndOk.go ?_); exact .t (by rw [← lidx_any l 0 (by omega)])
def grpLab (l : List Ent) : Str := if (l.any fun e => e.lab == []) = true then [] else match l with | [] => [] | e :: _ => e.lab
theorem label17_ok (H : Pr18 P) (k : Str) (l : List Ent) (hl : l.length ≤ 140737488355328) : FnOk P 17 [.agg [.t (.str k), .t (.lst (l.map Ent.enc))]] ⟨[], 0⟩ { v := .t (.str (grpLab l)) } := by
  have hc := lcont_ok H l hl
  refine FnOk.run H.i17 H.mixed rfl rfl ?_
  refine fR rfl ?_
  refine lM rfl rfl rfl ?_
  refine fM rfl ?_
  refine caG rfl rfl (fun hg => ⟨_, rfl, hc, rfl⟩) rfl rfl ?_
  refine fM rfl ?_
  cases l with
  | nil =>
    refine Run.condT rfl rfl rfl ?_
    refine fR rfl ?_
    refine Run.fin rfl (EndOk.go ?_); exact .t rfl
  | cons e r =>
    unfold grpLab
    cases ha : (e :: r).any (fun e => e.lab == []) with
    | true =>
      refine Run.condT rfl rfl (by simp) ?_
      refine fR rfl ?_
      refine Run.fin rfl (EndOk.go ?_); exact .t rfl
    | false =>
      have h0 : (e :: r)[0]? = some e := rfl
      refine Run.condF rfl rfl (by simp; omega) ?_
      refine fR rfl ?_
      refine pu rfl ?_
      refine fM rfl ?_
      refine Run.fin rfl (EndOk.go ?_); exact .t rfl
def mkF (a n : Str) : Sel := .mk 1 a n [] [] [] []
theorem mkF_ok (H : Pr18 P) (a n : Str) : FnOk P 22 [.t (.str a), .t (.str n)] ⟨[], 0⟩ { v := (mkF a n).v } := by
  refine FnOk.run H.i22 H.mixed rfl rfl ?_
  refine fR rfl ?_
  refine Run.fin rfl (EndOk.go ?_); exact .agg (.cons (.t rfl) (.cons (.t rfl) (.cons (.t rfl) (.cons (.t rfl) (.cons (.nil rfl) (.cons (.nil rfl) (.cons (.nil rfl) .nil)))))))
theorem text_ok (H : Pr18 P) (a n : Str) : FnOk P 24 [.t (.str a), .t (.str n)] ⟨[], 0⟩ { v := .agg [.t (.str a), .t (.int .i64 3), .t (.int .i64 0), .t (.str n), .t (.lst []), .t (.lst [])] } := by
  refine FnOk.run H.i24 H.mixed rfl rfl ?_
  refine fR rfl ?_
  refine Run.fin rfl (EndOk.go ?_); exact .agg (.cons (.t rfl) (.cons (.t rfl) (.cons (.t rfl) (.cons (.t rfl) (.cons (.nil rfl) (.cons (.nil rfl) .nil))))))
/- values, arguments, directives and selections are the same as themselves -/
end Go.GB.C18


/-
  H18J: chapter 18: small cases; the examples of the chapter.
-/
namespace Go.GB.C18
open Go.GB Go.GB.C11
set_option linter.unusedSimpArgs false
set_option linter.unusedVariables false
set_option maxRecDepth 100000
set_option maxHeartbeats 8000000
variable {P : Program}
def caseV (ds : List Def) (q : Query) (on : Str) (l : List Ent) : V := .agg [.t (.lst (ds.map Def.enc)), .t (.lst (q.ops.map Op.enc)), .t (.lst (q.frags.map Frag.enc)), .t (.str on), .t (.lst (l.map Ent.enc))]
def selQ (l : List Ent) : Query := ⟨[⟨0, [], [], (l.take 101).map Ent.sel⟩], []⟩
def fewF (ds : List Def) (q : Query) (l : List Ent) : Bool := (!largeF ds && !bigF q && decide ((l.length : Int) ≤ 100)) && !bigF (selQ l)
theorem selQ_ok {l : List Ent} (ho : ∀ e, e ∈ l → e.sel.Ok) : (selQ l).Ok := by
  refine ⟨by simp [selQ], fun x hx => ?_, by simp [selQ], fun x hx => by simp [selQ] at hx⟩
  simp only [selQ, List.mem_singleton] at hx
  subst hx
  refine ⟨by simp, by simp, fun y hy => by simp at hy, ?_, fun y hy => ?_⟩
  · simp only [List.length_map, List.length_take]; omega
  · obtain ⟨e, he, rfl⟩ := List.mem_map.1 hy
    exact ho e (List.mem_of_mem_take he)
theorem few_ok (H : Pr18 P) (ds : List Def) (hD : DocOk ds) (q : Query) (hq : q.Ok) (on : Str) (l : List Ent) (hl : l.length ≤ 140737488355328) (ho : ∀ e, e ∈ l → e.sel.Ok) : FnOk P 11 [caseV ds q on l] ⟨[], 0⟩ { v := .t (.bool (fewF ds q l)) } := by
  have hL := large_ok H.toPr ds hD
  have hb := big_ok H q hq
  have hs := big_ok H (selQ l) (selQ_ok ho)
  unfold fewF
  refine FnOk.run H.i11 H.mixed rfl rfl ?_
  refine fR rfl ?_
  refine rList (l.take 101) (fun i (B : List Sel) => { env := [(1, .ptr 0 0), (3, .own 1 7 (B.map Sel.enc)), (4, .t (.int .i64 i))], s := ⟨[(0, .cells [.t (.lst (ds.map Def.enc)), .t (.lst (q.ops.map Op.enc)), .t (.lst (q.frags.map Frag.enc)), .t (.str on), .t (.lst (l.map Ent.enc))]), (1, .arr B.length)], 2⟩ }) (fun r i B => B.length = i ∧ B ++ r.map Ent.sel = (l.take 101).map Ent.sel) 1 [] rfl ⟨rfl, rfl⟩ rfl rfl rfl ?_ ?_
  · rintro B ⟨_, hB⟩
    have e : B = (l.take 101).map Ent.sel := by rw [← hB]; simp
    subst e
    refine fR rfl ?_
    refine lM rfl rfl rfl ?_
    refine fM rfl ?_
    refine Run.condF rfl rfl (by simp; omega) ?_
    refine fR rfl ?_
    refine Mid.call (hL) rfl rfl rfl rfl ?_
    refine fM rfl ?_
    refine caG rfl rfl (fun hg => ⟨_, rfl, hb, rfl⟩) rfl rfl ?_
    refine fM rfl ?_
    refine lMG rfl rfl rfl rfl ?_
    refine fM rfl ?_
    generalize (!largeF ds && !bigF q && decide ((l.length : Int) ≤ 100)) = g
    cases g with
    | false =>
      refine Mid.grdF rfl rfl rfl rfl rfl ?_
      refine Mid.grdF rfl rfl rfl rfl rfl ?_
      refine Mid.grdF rfl rfl rfl rfl rfl ?_
      refine Mid.grdF rfl rfl rfl rfl rfl ?_
      refine fM rfl ?_
      refine Run.fin rfl (EndOk.go ?_); exact .t rfl
    | true =>
      refine Mid.ungd rfl rfl rfl ?_
      refine Mid.bslP rfl rfl rfl ?_
      refine fM rfl ?_
      refine Mid.ungd rfl rfl rfl ?_
      refine Mid.call (hs) rfl rfl rfl rfl ?_
      refine fM rfl ?_
      refine Run.fin rfl (EndOk.go ?_); exact .t rfl
  · rintro i x r B h1 hi hd ⟨hBl, hB⟩ ih
    have hBl' : B.length = i := hBl
    have hi' : i < l.length ∧ i < 101 := by simp at hi; omega
    have h2 : l[i]? = some x := by rw [List.getElem?_take] at h1; split at h1; exact h1; cases h1
    refine fR rfl ?_
    refine lM rfl rfl rfl ?_
    refine fM rfl ?_
    refine Run.condT rfl rfl (by simp; omega) ?_
    refine fR rfl ?_
    refine Mid.elemMap rfl rfl rfl h2 rfl rfl ?_
    refine fM rfl ?_
    refine apM Sel.enc B [x.sel] rfl (congrArg (fun c => some (T.lst [c])) (Sel.enc_eq x.sel).symm) rfl rfl rfl ?_ (hl := fun x => (congrArg List.length (Sel.enc_eq x)).trans rfl)
    refine fM rfl ?_
    refine aL rfl rfl rfl rfl rfl ?_
    refine fM rfl ?_
    exact rWeak 2 rfl (ih (B ++ [x.sel]) ⟨by simp; omega, by rw [← hB]; simp⟩) rfl rfl rfl
theorem selL_true : ∀ (k : Nat) (s : Sel), SizeOf.sizeOf s ≤ k → SelL (fun _ => True) s
  | 0, s, h => by cases s; simp at h
  | k + 1, .mk a b c d e f g, h => .mk (fun _ _ => trivial) fun x hx => selL_true k x (by have h1 := List.sizeOf_lt_of_mem hx; simp only [Sel.mk.sizeOf_spec] at h; omega)
/- the example -/
def kD : List Def := [⟨1, [84], [], [], [], [], []⟩, ⟨3, [85], [], [], [], [], []⟩]
def kL : List Ent := [⟨mkF [] [97], []⟩, ⟨.mk 3 [] [] [84] [] [⟨[100, 101, 102, 101, 114], [⟨[108, 97, 98, 101, 108], .mk 3 0 [120] [] []⟩]⟩] [mkF [98] [99], mkF [] [97]], []⟩, ⟨.mk 3 [] [] [85] [] [] [mkF [] [100]], []⟩]
def kC : CCtx := ⟨kD, ⟨[], []⟩, [84], Val.zero⟩
theorem kRes : (entsF kC 30 kL ⟨[], []⟩).out = [⟨[97], [⟨mkF [] [97], []⟩, ⟨mkF [] [97], [120]⟩]⟩, ⟨[98], [⟨mkF [98] [99], [120]⟩]⟩] := by kernel_rfl
theorem def0_ok (k : Int) (n : Str) (hn : n.length ≤ 140737488355328) : (⟨k, n, [], [], [], [], []⟩ : Def).Ok := ⟨by simp, by simp, by simp, by simp, by simp, by simp, by simp, by simp, by simp, hn, by simp⟩
theorem mkF_sok (a n : Str) (ha : a.length ≤ 1000) (hn : n.length ≤ 1000) : (mkF a n).Ok := .mk (by omega) (by omega) (by simp) (by simp) (by simp) (by simp) (by simp) (by simp) (by simp)
theorem kD_ok : DocOk kD := ⟨by decide, fun y hy => by
    simp only [kD, List.mem_cons, List.not_mem_nil, or_false] at hy
    rcases hy with rfl | rfl
    · exact def0_ok _ _ (by simp)
    · exact def0_ok _ _ (by simp), by decide⟩
theorem kC_ok : COk kC (fun _ => True) [] := ⟨kD_ok, ⟨by decide, by simp [kC], by decide, by simp [kC]⟩, Val.zero_ok, by simp [kC], fun n f l h _ => by simp [kC, findFrag] at h⟩
theorem kL_ok : ∀ e, e ∈ kL → EntOk (fun _ => True) e := by
  intro e he
  refine ⟨?_, selL_true _ _ (Nat.le_refl _), trivial⟩
  simp only [kL, List.mem_cons, List.not_mem_nil, or_false] at he
  rcases he with rfl | rfl | rfl
  · exact mkF_sok _ _ (by simp) (by simp)
  · refine .mk (by simp) (by simp) (by simp) (by simp) (by simp) (by decide) (by simp) ?_ ?_
    · intro x hx
      rw [List.mem_singleton.1 hx]
      refine ⟨⟨by simp, ?_, by simp⟩, ?_⟩
      · intro y hy; rw [List.mem_singleton.1 hy]; exact .mk (by decide) (by decide) (by simp) (by simp) (by simp)
      · intro y hy; rw [List.mem_singleton.1 hy]; simp
    · intro x hx
      simp only [List.mem_cons, List.not_mem_nil, or_false] at hx
      rcases hx with rfl | rfl
      · exact mkF_sok _ _ (by simp) (by simp)
      · exact mkF_sok _ _ (by simp) (by simp)
  · refine .mk (by simp) (by simp) (by simp) (by simp) (by simp) (by decide) (by simp) (by simp) ?_
    intro x hx
    rw [List.mem_singleton.1 hx]; exact mkF_sok _ _ (by simp) (by simp)
def kS : List Dir := [⟨[115, 107, 105, 112], [⟨[105, 102], .mk 7 0 [98] [] []⟩]⟩]
def kY : Val := .mk 6 0 [] [.mk 1 1 [] [] []] [[98]]
theorem kS_ok : DirsOk kS := ⟨by decide, fun x hx => by
    rw [List.mem_singleton.1 hx]
    refine ⟨by simp, ?_, by simp⟩
    intro y hy; rw [List.mem_singleton.1 hy]; exact .mk (by decide) (by decide) (by simp) (by simp) (by simp)⟩
theorem kY_ok : kY.Ok := .mk (by decide) (by decide) (fun x hx => by rw [List.mem_singleton.1 hx]; exact .mk (by decide) (by decide) (by simp) (by simp) (by simp)) (by simp) (by simp)
theorem inc1 : incF kY kS = false := by kernel_rfl
theorem inc2 : incF Val.zero kS = true := by kernel_rfl
theorem lab1 : grpLab [⟨mkF [] [97], []⟩, ⟨mkF [] [97], [120]⟩] = [] := by kernel_rfl
theorem lab2 : grpLab [⟨mkF [98] [99], [120]⟩] = [120] := by kernel_rfl
theorem knows_ok (H : Pr18 P) : FnOk P 8 [] ⟨[], 0⟩ { v := .t (.bool true) } := by
  have hf := fields_ok H kC_ok 30 kL kL_ok (by decide) (by decide) (by decide)
  rw [kRes] at hf
  have h1 := label17_ok H [97] [⟨mkF [] [97], []⟩, ⟨mkF [] [97], [120]⟩] (by decide)
  rw [lab1] at h1
  have h2 := label17_ok H [98] [⟨mkF [98] [99], [120]⟩] (by decide)
  rw [lab2] at h2
  have i1 := included_ok H kS kS_ok kY kY_ok
  rw [inc1] at i1
  have i2 := included_ok H kS kS_ok Val.zero Val.zero_ok
  rw [inc2] at i2
  refine FnOk.run H.i8 H.mixed rfl rfl ?_
  refine fR rfl ?_
  refine Mid.call (mkF_ok H [] [97]) rfl rfl rfl rfl ?_
  refine fM rfl ?_
  refine Mid.call (text_ok H [108, 97, 98, 101, 108] [120]) rfl rfl rfl rfl ?_
  refine fM rfl ?_
  refine Mid.call (mkF_ok H [98] [99]) rfl rfl rfl rfl ?_
  skip
  refine Mid.call (mkF_ok H [] [97]) rfl rfl rfl rfl ?_
  refine fM rfl ?_
  refine Mid.call (mkF_ok H [] [100]) rfl rfl rfl rfl ?_
  refine fM rfl ?_
  refine Mid.call (hf) rfl rfl rfl rfl ?_
  refine fM rfl ?_
  refine lM rfl rfl rfl ?_
  refine fM rfl ?_
  refine gr rfl ?_
  refine fM rfl ?_
  refine gr rfl ?_
  refine fM rfl ?_
  refine lMG rfl rfl rfl rfl ?_
  refine fM rfl ?_
  refine gr rfl ?_
  refine fM rfl ?_
  refine gr rfl ?_
  refine fM rfl ?_
  refine lMG rfl rfl rfl rfl ?_
  refine fM rfl ?_
  refine gr rfl ?_
  refine fM rfl ?_
  refine gr rfl ?_
  refine fM rfl ?_
  refine Run.condF rfl rfl (by decide) ?_
  refine fR rfl ?_
  refine pu rfl ?_
  refine fM rfl ?_
  refine Mid.call (h1) rfl rfl rfl rfl ?_
  refine fM rfl ?_
  refine gr rfl ?_
  refine fM rfl ?_
  refine caG rfl rfl (fun hg => ⟨_, rfl, h2, rfl⟩) rfl rfl ?_
  refine fM rfl ?_
  refine caG rfl rfl (fun hg => ⟨_, rfl, i1, rfl⟩) rfl rfl ?_
  refine fM rfl ?_
  refine caG rfl rfl (fun hg => ⟨_, rfl, i2, rfl⟩) rfl rfl ?_
  refine fM rfl ?_
  refine Run.fin rfl (EndOk.go ?_); exact .t rfl
end Go.GB.C18


/-
  H18K: chapter 18: labels and marks of a case; how much it collects; keys differ.
-/
namespace Go.GB.C18
open Go.GB Go.GB.C11
set_option linter.unusedSimpArgs false
set_option linter.unusedVariables false
set_option maxRecDepth 100000
set_option maxHeartbeats 2000000
/- what entries keep of groups -/
theorem ents_post {c : CCtx} {Lb : Str → Prop} {U : List (Str × Str × Nat)} (hc : COk c Lb U) (n : Nat) : ∀ (l : List Ent) (s : CSt), (∀ e, e ∈ l → EntOk Lb e) → Full s.out → Post c U s (entsF c n l s) (entsN l)
  | [], s, _, hf => .refl hf
  | x :: r, s, hl, hf => by
    have h1 := ent_post hc n x s (hl x (by simp)) hf
    have h2 := ents_post hc n r (entF c n x s) (fun y hy => hl y (by simp [hy])) h1.f
    have := h1.trans h2
    simp only [entsN]; exact this
def GOk (l : List Grp) : Prop := ∀ g, g ∈ l → ∀ e, e ∈ g.list → e.sel.Ok
theorem GOk.add : ∀ (e : Ent) (l : List Grp), e.sel.Ok → GOk l → GOk (addF e l)
  | e, [], he, _ => by intro g hg x hx; simp [addF] at hg; subst hg; simp at hx; subst hx; exact he
  | e, y :: r, he, h => by
    intro g hg x hx
    simp only [addF] at hg
    split at hg
    · rcases List.mem_cons.1 hg with rfl | hg
      · rcases List.mem_append.1 hx with hx | hx
        · exact h y (by simp) x hx
        · rw [List.mem_singleton.1 hx]; exact he
      · exact h g (by simp [hg]) x hx
    · rcases List.mem_cons.1 hg with rfl | hg
      · exact h _ (by simp) x hx
      · exact GOk.add e r he (fun z hz => h z (by simp [hz])) g hg x hx
/-- no two groups have the same key -/
def Dk (l : List Grp) : Prop := (l.map Grp.key).Nodup
theorem add_keys (e : Ent) : ∀ l : List Grp, (addF e l).map Grp.key = if keyF e.sel ∈ l.map Grp.key then l.map Grp.key else l.map Grp.key ++ [keyF e.sel]
  | [] => by simp [addF]
  | g :: r => by
    have ih := add_keys e r
    simp only [addF]
    by_cases h : g.key = keyF e.sel
    · simp [h]
    · rw [if_neg h]
      simp only [List.map_cons, ih, List.mem_cons]
      have h' : ¬ keyF e.sel = g.key := fun e => h e.symm
      by_cases h2 : keyF e.sel ∈ r.map Grp.key
      · simp [h2]
      · simp [h2, h']
theorem Dk.add (e : Ent) (l : List Grp) (_ : e.sel.Ok) (h : Dk l) : Dk (addF e l) := by
  unfold Dk at *
  rw [add_keys]
  split
  · exact h
  · rename_i hn
    rw [List.nodup_append]
    exact ⟨h, by simp, fun a ha b hb => by rw [List.mem_singleton.1 hb]; rintro rfl; exact hn ha⟩

/- labels -/
def labsD (l : List Dir) : List Str := l.map fun x => (labV x).text
theorem labF_mem (o : Str) : ∀ l : List Dir, labF o l = o ∨ labF o l ∈ labsD l
  | [] => .inl rfl
  | x :: r => by
    simp only [labF, labsD, List.map_cons]
    split
    · split
      · right; simp
      · left; rfl
    · rcases labF_mem o r with h | h
      · exact .inl h
      · right; exact List.mem_cons_of_mem _ h
mutual
def labsS : Sel → List Str
  | .mk _ _ _ _ _ ds ss => labsD ds ++ labsSs ss
def labsSs : List Sel → List Str
  | [] => []
  | x :: r => labsS x ++ labsSs r
end
theorem labsSs_mem {x : Sel} : ∀ {l : List Sel}, x ∈ l → ∀ s, s ∈ labsS x → s ∈ labsSs l
  | [], h, s, _ => by simp at h
  | y :: r, h, s, hs => by
    simp only [labsSs, List.mem_append]
    rcases List.mem_cons.1 h with rfl | h
    · exact .inl hs
    · exact .inr (labsSs_mem h s hs)
theorem selL_of {L : List Str} : ∀ (k : Nat) (s : Sel), SizeOf.sizeOf s ≤ k → (∀ x, x ∈ labsS s → x ∈ L) → SelL (· ∈ L) s
  | 0, s, h, _ => by cases s; simp at h
  | k + 1, .mk a b c d e f g, h, hL => .mk (fun o ho => by
      rcases labF_mem o f with h1 | h1
      · rw [h1]; exact ho
      · exact hL _ (by simp only [labsS, List.mem_append]; exact .inl h1)) fun x hx => selL_of k x (by have h1 := List.sizeOf_lt_of_mem hx; simp only [Sel.mk.sizeOf_spec] at h; omega) fun y hy => hL y (by simp only [labsS, List.mem_append]; exact .inr (labsSs_mem hx y hy))
def labsC (q : Query) (l : List Ent) : List Str := (l.flatMap fun e => e.lab :: labsS e.sel) ++ q.frags.flatMap fun f => labsSs f.sels
def marksC (L : List Str) (fs : List Frag) : List (Str × Str × Nat) := fs.flatMap fun f => L.map fun l => (f.name, l, selsN f.sels + 1)
def frN : List Frag → Nat
  | [] => 0
  | f :: r => selsN f.sels + 1 + frN r
theorem phi_app (q : Query) (d : List (Str × Str)) : ∀ (a b : List (Str × Str × Nat)), phi q d (a ++ b) = phi q d a + phi q d b
  | [], b => by simp [phi]
  | x :: r, b => by simp only [List.cons_append, phi, phi_app q d r b]; omega
theorem phi_row (q : Query) (n : Str) (w : Nat) : ∀ L : List Str, phi q [] (L.map fun l => (n, l, w)) = L.length * w
  | [] => by simp [phi]
  | x :: r => by
    have := phi_row q n w r
    simp only [List.map_cons, phi, this, List.not_mem_nil, if_false, List.length_cons]
    rw [Nat.add_mul]; omega
theorem phi_marks (q : Query) (L : List Str) : ∀ fs : List Frag, phi q [] (marksC L fs) = L.length * frN fs
  | [] => by simp [marksC, phi, frN]
  | f :: r => by
    have ih := phi_marks q L r
    unfold marksC at ih ⊢
    simp only [List.flatMap_cons, phi_app, phi_row, ih, frN]
    rw [← Nat.mul_add]
theorem findFrag_name {n : Str} : ∀ {l : List Frag} {f : Frag}, findFrag n l = some f → f.name = n
  | [], f, h => by simp [findFrag] at h
  | x :: r, f, h => by
    simp only [findFrag] at h
    split at h
    · rename_i hx; simp at h; subst h; simpa using hx
    · exact findFrag_name h

/- bulk -/
theorem dirs_bulk2 : ∀ l : List Dir, 2 * l.length ≤ bulkLL (l.map Dir.enc)
  | [] => by simp
  | d :: r => by
    have := dirs_bulk2 r
    simp only [List.map_cons, bulkLL, Dir.enc, bulkL, T.bulk, List.length_cons]; omega
theorem sel_bulk : ∀ (k : Nat), (∀ s : Sel, SizeOf.sizeOf s ≤ k → 2 * (labsS s).length + selN s + 6 ≤ bulkL s.enc) ∧ ∀ l : List Sel, SizeOf.sizeOf l ≤ k → 2 * (labsSs l).length + selsN l ≤ bulkLL (l.map Sel.enc)
  | 0 => ⟨fun s h => by cases s; simp at h, fun l h => by cases l <;> simp at h⟩
  | k + 1 => by
    have ih := sel_bulk k
    refine ⟨fun s h => ?_, fun l h => ?_⟩
    · cases s with
      | mk a b c d e f g =>
        have h1 := ih.2 g (by simp only [Sel.mk.sizeOf_spec] at h; omega)
        have h2 := dirs_bulk2 f
        simp only [labsS, labsD, selN, Sel.enc, Sel.encs_map, bulkL, T.bulk, List.length_append, List.length_map]
        omega
    · cases l with
      | nil => simp [labsSs, selsN, bulkLL]
      | cons x r =>
        have h1 := ih.1 x (by simp only [List.cons.sizeOf_spec] at h; omega)
        have h2 := ih.2 r (by simp only [List.cons.sizeOf_spec] at h; omega)
        simp only [labsSs, selsN, List.map_cons, bulkLL, List.length_append]; omega
theorem sels_bulk (l : List Sel) : 2 * (labsSs l).length + selsN l ≤ bulkLL (l.map Sel.enc) := (sel_bulk _).2 l (Nat.le_refl _)
theorem ent_bulk (e : Ent) : 2 * ((labsS e.sel).length + 1) + selN e.sel ≤ bulkL e.enc := by
  have h := (sel_bulk _).1 e.sel (Nat.le_refl _)
  have : bulkL e.enc = bulkL e.sel.enc + (e.lab.length + 1) := by
    rw [Sel.enc_eq]
    simp only [Ent.enc, Sel.cs, bulkL, T.bulk]; omega
  omega
theorem ents_bulk : ∀ l : List Ent, 2 * (l.flatMap fun e => e.lab :: labsS e.sel).length + entsN l ≤ bulkLL (l.map Ent.enc)
  | [] => by simp [entsN, bulkLL]
  | e :: r => by
    have h1 := ent_bulk e
    have h2 := ents_bulk r
    simp only [List.flatMap_cons, List.length_append, List.length_cons, entsN, List.map_cons, bulkLL]
    omega
theorem frags_bulk2 : ∀ fs : List Frag, 2 * (fs.flatMap fun f => labsSs f.sels).length + frN fs ≤ bulkLL (fs.map Frag.enc)
  | [] => by simp [frN, bulkLL]
  | f :: r => by
    have h1 := sels_bulk f.sels
    have h2 := frags_bulk2 r
    simp only [List.flatMap_cons, List.length_append, frN, List.map_cons, bulkLL, Frag.enc, bulkL, T.bulk]
    omega
theorem prod_bound {D S : Nat} (h : 2 * D + S ≤ 1048576) : D * S ≤ 274877906944 := by
  by_cases h1 : D ≤ 262144
  · exact Nat.le_trans (Nat.mul_le_mul h1 (by omega : S ≤ 1048576)) (by decide)
  · exact Nat.le_trans (Nat.mul_le_mul (by omega : D ≤ 524288) (by omega : S ≤ 524288)) (by decide)
/-- a case of bounded bulk -/
theorem case_ok {c : CCtx} (hd : DocOk c.ds) (hq : c.q.Ok) (hv : c.vars.Ok) {l : List Ent} (hl : ∀ e, e ∈ l → e.sel.Ok) (hb : bulkLL (c.q.frags.map Frag.enc) + bulkLL (l.map Ent.enc) ≤ 1048576) :
    COk c (· ∈ labsC c.q l) (marksC (labsC c.q l) c.q.frags) ∧ (∀ e, e ∈ l → EntOk (· ∈ labsC c.q l) e) ∧ phi c.q [] (marksC (labsC c.q l) c.q.frags) + entsN l ≤ 549755813888 := by
  refine ⟨⟨hd, hq, hv, fun f hf x hx => selL_of _ x (Nat.le_refl _) fun y hy => ?_, fun n f lb hf hlb => ?_⟩, fun e he => ⟨hl e he, selL_of _ e.sel (Nat.le_refl _) fun y hy => ?_, ?_⟩, ?_⟩
  · simp only [labsC, List.mem_append, List.mem_flatMap]
    exact .inr ⟨f, hf, labsSs_mem hx y hy⟩
  · have h1 := findFrag_mem hf
    have h2 := findFrag_name hf
    simp only [marksC, List.mem_flatMap, List.mem_map]
    exact ⟨f, h1, lb, hlb, by rw [h2]⟩
  · simp only [labsC, List.mem_append, List.mem_flatMap]
    exact .inl ⟨e, he, List.mem_cons_of_mem _ hy⟩
  · simp only [labsC, List.mem_append, List.mem_flatMap]
    exact .inl ⟨e, he, by simp⟩
  · have h1 := ents_bulk l
    have h2 := frags_bulk2 c.q.frags
    have h3 : 2 * (labsC c.q l).length + frN c.q.frags + entsN l ≤ 1048576 := by
      simp only [labsC, List.length_append]; omega
    have h4 := prod_bound (D := (labsC c.q l).length) (S := frN c.q.frags) (by omega)
    rw [phi_marks]; omega
end Go.GB.C18


/-
  H18L: chapter 18: the laws of Included, Label, and of the type condition; Fields and the reference.
-/
namespace Go.GB.C18
open Go.GB Go.GB.C11
set_option linter.unusedSimpArgs false
set_option linter.unusedVariables false
set_option maxRecDepth 100000
set_option maxHeartbeats 8000000
variable {P : Program}
theorem nodup_at {l : List Grp} (h : Dk l) {i j : Nat} {x y : Grp} (hi : l[i]? = some x) (hj : l[j]? = some y) (hlt : j < i) : ¬ y.key = x.key := by
  have h2 := List.pairwise_iff_getElem.1 h j i
  obtain ⟨a1, a2⟩ := List.getElem?_eq_some_iff.1 hi
  obtain ⟨b1, b2⟩ := List.getElem?_eq_some_iff.1 hj
  have := h2 (by simpa using b1) (by simpa using a1) hlt
  simpa [a2, b2] using this
end Go.GB.C18


/-
  H18Q: chapter 18: two lists of entries one after the other: what is collected of both is what the first has, and what is new of the second.
-/
namespace Go.GB.C18
open Go.GB Go.GB.C11
set_option linter.unusedSimpArgs false
set_option linter.unusedVariables false
set_option maxRecDepth 100000
set_option maxHeartbeats 2000000
def kys (s : CSt) : List Str := s.out.map Grp.key
/-- an entry is covered by keys and marks -/
inductive Cov (c : CCtx) (A : List Str) (D : List (Str × Str)) : Sel → Str → Prop where
  | skip {s : Sel} {lab : Str} (h : incF c.vars s.dirs = false) : Cov c A D s lab
  | inl {s : Sel} {lab : Str} (h : s.kind = 3) (hh : (s.on = [] ∨ isF c.ds c.on s.on = true) → ∀ x, x ∈ s.sels → Cov c A D x (labF lab s.dirs)) : Cov c A D s lab
  | spr {s : Sel} {lab : Str} (h : s.kind = 2) (hh : ∀ f, findFrag s.name c.q.frags = some f → isF c.ds c.on f.on = true → (s.name, labF lab s.dirs) ∈ D) : Cov c A D s lab
  | fld {s : Sel} {lab : Str} (h3 : s.kind ≠ 3) (h2 : s.kind ≠ 2) (hk : keyF s ∈ A) : Cov c A D s lab
theorem Cov.mono {c : CCtx} {A A' : List Str} {D D' : List (Str × Str)} (hA : ∀ k, k ∈ A → k ∈ A') (hD : ∀ m, m ∈ D → m ∈ D') {s : Sel} {lab : Str} (h : Cov c A D s lab) : Cov c A' D' s lab := by
  induction h with
  | skip h => exact .skip h
  | inl h hh ih => exact .inl h ih
  | spr h hh => exact .spr h fun f hf hi => hD _ (hh f hf hi)
  | fld h3 h2 hk => exact .fld h3 h2 (hA _ hk)
def ClM (c : CCtx) (A : List Str) (D : List (Str × Str)) (m : Str × Str) : Prop := ∀ f, findFrag m.1 c.q.frags = some f → ∀ x, x ∈ f.sels → Cov c A D x m.2
theorem ClM.mono {c : CCtx} {A A' : List Str} {D D' : List (Str × Str)} (hA : ∀ k, k ∈ A → k ∈ A') (hD : ∀ m, m ∈ D → m ∈ D') {m : Str × Str} (h : ClM c A D m) : ClM c A' D' m := fun f hf x hx => (h f hf x hx).mono hA hD
theorem fold_ents (c : CCtx) (n : Nat) (lab : Str) (l : List Sel) (s : CSt) : l.foldl (fun s x => entF c n ⟨x, lab⟩ s) s = entsF c n (l.map fun x => ⟨x, lab⟩) s := by
  simp [entsF, List.foldl_map]
theorem entsF_cons (c : CCtx) (n : Nat) (e : Ent) (r : List Ent) (s : CSt) : entsF c n (e :: r) s = entsF c n r (entF c n e s) := rfl
theorem entsN_map (lab : Str) : ∀ l : List Sel, entsN (l.map fun x => (⟨x, lab⟩ : Ent)) = selsN l
  | [] => rfl
  | x :: r => by simp only [List.map_cons, entsN, selsN, entsN_map lab r]

/- what a covered entry adds -/
def Grow (A : List Str) (D : List (Str × Str)) (s s' : CSt) : Prop := ∃ (ks : List Str) (ms : List (Str × Str)), kys s' = kys s ++ ks ∧ (∀ k, k ∈ ks → k ∈ A) ∧ s'.done = s.done ++ ms ∧ ∀ m, m ∈ ms → m ∈ D
theorem Grow.refl {A : List Str} {D : List (Str × Str)} {s : CSt} : Grow A D s s := ⟨[], [], by simp, by simp, by simp, by simp⟩
theorem Grow.trans {A : List Str} {D : List (Str × Str)} {s s' s'' : CSt} (h : Grow A D s s') (g : Grow A D s' s'') : Grow A D s s'' := by
  obtain ⟨k1, m1, a1, a2, a3, a4⟩ := h
  obtain ⟨k2, m2, b1, b2, b3, b4⟩ := g
  refine ⟨k1 ++ k2, m1 ++ m2, by rw [b1, a1, List.append_assoc], fun k hk => ?_, by rw [b3, a3, List.append_assoc], fun m hm => ?_⟩
  · rcases List.mem_append.1 hk with hk | hk
    · exact a2 k hk
    · exact b2 k hk
  · rcases List.mem_append.1 hm with hm | hm
    · exact a4 m hm
    · exact b4 m hm
theorem ents_grow {c : CCtx} {A : List Str} {D : List (Str × Str)} {n : Nat} (ih : ∀ (e : Ent) (s : CSt), Cov c A D e.sel e.lab → Grow A D s (entF c n e s)) : ∀ (l : List Ent) (s : CSt), (∀ e, e ∈ l → Cov c A D e.sel e.lab) → Grow A D s (entsF c n l s)
  | [], s, _ => .refl
  | x :: r, s, h => (ih x s (h x (by simp))).trans (ents_grow ih r _ fun e he => h e (by simp [he]))
theorem kys_add (e : Ent) (s : CSt) : kys ⟨addF e s.out, s.done⟩ = if keyF e.sel ∈ kys s then kys s else kys s ++ [keyF e.sel] := add_keys e s.out
theorem ent_grow {c : CCtx} {A : List Str} {D : List (Str × Str)} (hC : ∀ m, m ∈ D → ClM c A D m) : ∀ (n : Nat) (e : Ent) (s : CSt), Cov c A D e.sel e.lab → Grow A D s (entF c n e s)
  | 0, e, s, _ => .refl
  | n + 1, e, s, h => by
    have ih := ent_grow hC n
    simp only [entF]
    by_cases hi : incF c.vars e.sel.dirs = false
    · rw [if_pos hi]; exact .refl
    rw [if_neg hi]
    by_cases h3 : e.sel.kind = 3
    · rw [if_pos h3]
      split
      · rename_i hon
        rw [fold_ents]
        refine ents_grow ih _ _ fun y hy => ?_
        obtain ⟨x, hx, rfl⟩ := List.mem_map.1 hy
        cases h with
        | skip h => exact absurd h hi
        | inl _ hh => exact hh hon x hx
        | spr h2 => omega
        | fld h4 => exact absurd h3 h4
      · exact .refl
    rw [if_neg h3]
    by_cases h2 : e.sel.kind = 2
    · rw [if_pos h2]
      split
      · exact .refl
      · rename_i f hf
        split
        · rename_i hh
          have hm : (e.sel.name, labF e.lab e.sel.dirs) ∈ D := by
            cases h with
            | skip h => exact absurd h hi
            | inl h => omega
            | spr _ hd => exact hd f hf hh.1
            | fld _ h4 => exact absurd h2 h4
          rw [fold_ents]
          refine Grow.trans (s' := ⟨s.out, s.done ++ [(e.sel.name, labF e.lab e.sel.dirs)]⟩) ⟨[], [_], by simp [kys], by simp, rfl, fun m hm' => by rw [List.mem_singleton.1 hm']; exact hm⟩ ?_
          refine ents_grow ih _ _ fun y hy => ?_
          obtain ⟨x, hx, rfl⟩ := List.mem_map.1 hy
          exact hC _ hm f hf x hx
        · exact .refl
    rw [if_neg h2]
    have hk : keyF e.sel ∈ A := by
      cases h with
      | skip h => exact absurd h hi
      | inl h => exact absurd h h3
      | spr h => exact absurd h h2
      | fld _ _ hk => exact hk
    have := kys_add e s
    split at this
    · exact ⟨[], [], by rw [this]; simp, by simp, by simp, by simp⟩
    · exact ⟨[_], [], this, fun k hk' => by rw [List.mem_singleton.1 hk']; exact hk, by simp, by simp⟩

/- what is collected only grows -/
structure Sub (s s' : CSt) : Prop where
  k : ∀ k, k ∈ kys s → k ∈ kys s'
  d : ∀ m, m ∈ s.done → m ∈ s'.done
theorem Sub.refl {s : CSt} : Sub s s := ⟨fun _ h => h, fun _ h => h⟩
theorem Sub.trans {s s' s'' : CSt} (h : Sub s s') (g : Sub s' s'') : Sub s s'' := ⟨fun k hk => g.k k (h.k k hk), fun m hm => g.d m (h.d m hm)⟩
theorem ents_sub {c : CCtx} {n : Nat} (ih : ∀ (e : Ent) (s : CSt), Sub s (entF c n e s)) : ∀ (l : List Ent) (s : CSt), Sub s (entsF c n l s)
  | [], s => .refl
  | x :: r, s => (ih x s).trans (ents_sub ih r _)
theorem ent_sub' {c : CCtx} : ∀ (n : Nat) (e : Ent) (s : CSt), Sub s (entF c n e s)
  | 0, e, s => .refl
  | n + 1, e, s => by
    have ih := ent_sub' (c := c) n
    simp only [entF]
    split
    · exact .refl
    · split
      · split
        · rw [fold_ents]; exact ents_sub ih _ _
        · exact .refl
      · split
        · split
          · exact .refl
          · split
            · rw [fold_ents]
              exact Sub.trans (s' := ⟨s.out, s.done ++ _⟩) ⟨fun _ h => h, fun m hm => List.mem_append_left _ hm⟩ (ents_sub ih _ _)
            · exact .refl
        · refine ⟨fun k hk => ?_, fun _ h => h⟩
          rw [kys_add]
          split
          · exact hk
          · exact List.mem_append_left _ hk

/- after a full run all is covered -/
def Done (c : CCtx) (s s' : CSt) : Prop := ∀ m, m ∈ s'.done → m ∈ s.done ∨ ClM c (kys s') s'.done m
theorem ents_cov {c : CCtx} {Lb : Str → Prop} {U : List (Str × Str × Nat)} (hc : COk c Lb U) {n : Nat} (ih : ∀ (e : Ent) (s : CSt), EntOk Lb e → selN e.sel + phi c.q s.done U ≤ n → Full s.out → Cov c (kys (entF c n e s)) (entF c n e s).done e.sel e.lab ∧ Done c s (entF c n e s)) :
    ∀ (l : List Ent) (s : CSt), (∀ e, e ∈ l → EntOk Lb e) → entsN l + phi c.q s.done U ≤ n → Full s.out → (∀ e, e ∈ l → Cov c (kys (entsF c n l s)) (entsF c n l s).done e.sel e.lab) ∧ Done c s (entsF c n l s)
  | [], s, _, _, _ => ⟨fun e he => (by cases he), fun m hm => .inl hm⟩
  | x :: r, s, hl, hn, hf => by
    simp only [entsN] at hn
    have hp := ent_post hc n x s (hl x (by simp)) hf
    have hpp := hp.p
    obtain ⟨a1, a2⟩ := ih x s (hl x (by simp)) (by omega) hf
    obtain ⟨b1, b2⟩ := ents_cov hc ih r (entF c n x s) (fun e he => hl e (by simp [he])) (by omega) hp.f
    have hs := ents_sub (c := c) (n := n) (ent_sub' n) r (entF c n x s)
    rw [entsF_cons]
    refine ⟨fun e he => ?_, fun m hm => ?_⟩
    · rcases List.mem_cons.1 he with rfl | he
      · exact a1.mono hs.k hs.d
      · exact b1 e he
    · rcases b2 m hm with h | h
      · rcases a2 m h with h | h
        · exact .inl h
        · exact .inr (h.mono hs.k hs.d)
      · exact .inr h
theorem ent_cov {c : CCtx} {Lb : Str → Prop} {U : List (Str × Str × Nat)} (hc : COk c Lb U) : ∀ (n : Nat) (e : Ent) (s : CSt), EntOk Lb e → selN e.sel + phi c.q s.done U ≤ n → Full s.out → Cov c (kys (entF c n e s)) (entF c n e s).done e.sel e.lab ∧ Done c s (entF c n e s)
  | 0, e, s, he, hn, hf => by rw [selN_eq] at hn; omega
  | n + 1, e, s, he, hn, hf => by
    have ih := ent_cov hc n
    have hsame : Done c s s := fun m hm => .inl hm
    rw [selN_eq] at hn
    simp only [entF]
    by_cases hi : incF c.vars e.sel.dirs = false
    · rw [if_pos hi]; exact ⟨.skip hi, hsame⟩
    rw [if_neg hi]
    by_cases h3 : e.sel.kind = 3
    · rw [if_pos h3]
      split
      · rename_i hon
        rw [fold_ents]
        have hsb := ent_sub he
        obtain ⟨a1, a2⟩ := ents_cov hc ih (e.sel.sels.map fun x => ⟨x, labF e.lab e.sel.dirs⟩) s (fun y hy => by obtain ⟨x, hx, rfl⟩ := List.mem_map.1 hy; exact hsb x hx) (by rw [entsN_map]; omega) hf
        exact ⟨.inl h3 fun _ x hx => a1 _ (List.mem_map_of_mem hx), a2⟩
      · rename_i hon
        exact ⟨.inl h3 fun h => absurd h hon, hsame⟩
    rw [if_neg h3]
    by_cases h2 : e.sel.kind = 2
    · rw [if_pos h2]
      split
      · rename_i hf0
        exact ⟨.spr h2 fun f hf1 => (by rw [hf0] at hf1; cases hf1), hsame⟩
      · rename_i f hfr
        split
        · rename_i hh
          rw [fold_ents]
          have hsb := ent_frag hc he hfr
          have hw := phi_note (q := c.q) hh.2 (hc.mark e.sel.name f (labF e.lab e.sel.dirs) hfr (he.l.l _ he.o))
          obtain ⟨a1, a2⟩ := ents_cov hc ih (f.sels.map fun x => ⟨x, labF e.lab e.sel.dirs⟩) ⟨s.out, s.done ++ [(e.sel.name, labF e.lab e.sel.dirs)]⟩ (fun y hy => by obtain ⟨x, hx, rfl⟩ := List.mem_map.1 hy; exact hsb x hx) (by rw [entsN_map]; simp only; omega) hf
          have hs := ents_sub (c := c) (n := n) (ent_sub' n) (f.sels.map fun x => ⟨x, labF e.lab e.sel.dirs⟩) ⟨s.out, s.done ++ [(e.sel.name, labF e.lab e.sel.dirs)]⟩
          refine ⟨.spr h2 fun f' hf' _ => hs.d _ (by simp), fun m hm => ?_⟩
          rcases a2 m hm with h | h
          · rcases List.mem_append.1 h with h | h
            · exact .inl h
            · rw [List.mem_singleton.1 h]
              refine .inr fun f' hf' x hx => ?_
              simp only at hf'
              rw [hfr] at hf'
              cases hf'
              exact a1 _ (List.mem_map_of_mem hx)
          · exact .inr h
        · rename_i hh
          refine ⟨.spr h2 fun f' hf' hi' => ?_, hsame⟩
          rw [hfr] at hf'
          cases hf'
          exact Classical.byContradiction fun hn => hh ⟨hi', hn⟩
    rw [if_neg h2]
    refine ⟨.fld h3 h2 ?_, fun m hm => .inl hm⟩
    rw [kys_add]
    split
    · assumption
    · simp

/- the second list after the first, and alone -/
def addNew (A : List Str) (l : List Str) : List Str := l.foldl (fun o k => if k ∈ o then o else o ++ [k]) A
theorem addNew_snoc (A l : List Str) (k : Str) : addNew A (l ++ [k]) = if k ∈ addNew A l then addNew A l else addNew A l ++ [k] := by
  unfold addNew
  rw [List.foldl_append]
  rfl
theorem mem_addNew {x : Str} : ∀ (l A : List Str), x ∈ addNew A l ↔ x ∈ A ∨ x ∈ l
  | [], A => by simp [addNew]
  | k :: r, A => by
    have h : addNew A (k :: r) = addNew (if k ∈ A then A else A ++ [k]) r := rfl
    rw [h, mem_addNew r]
    split
    · rename_i hk
      constructor
      · rintro (h | h)
        · exact .inl h
        · exact .inr (by simp [h])
      · rintro (h | h)
        · exact .inl h
        · rcases List.mem_cons.1 h with rfl | h
          · exact .inl hk
          · exact .inr h
    · rw [List.mem_append, List.mem_singleton, List.mem_cons, or_assoc]
theorem addNew_in (A : List Str) : ∀ (l ks : List Str), (∀ k, k ∈ ks → k ∈ A) → addNew A (l ++ ks) = addNew A l
  | l, [], _ => by simp
  | l, k :: r, h => by
    have h1 := addNew_in A (l ++ [k]) r fun x hx => h x (by simp [hx])
    rw [List.append_assoc] at h1
    simp only [List.singleton_append] at h1
    rw [h1, addNew_snoc, if_pos ((mem_addNew l A).2 (.inl (h k (by simp))))]
structure Sim (A : List Str) (D : List (Str × Str)) (σ τ : CSt) : Prop where
  k : kys σ = addNew A (kys τ)
  d : ∀ m, m ∈ σ.done ↔ m ∈ D ∨ m ∈ τ.done
theorem ents_sim {c : CCtx} {A : List Str} {D : List (Str × Str)} {n : Nat} (ih : ∀ (e : Ent) (σ τ : CSt), Sim A D σ τ → Sim A D (entF c n e σ) (entF c n e τ)) : ∀ (l : List Ent) (σ τ : CSt), Sim A D σ τ → Sim A D (entsF c n l σ) (entsF c n l τ)
  | [], σ, τ, h => h
  | x :: r, σ, τ, h => ents_sim ih r _ _ (ih x σ τ h)
theorem Sim.grow {A : List Str} {D : List (Str × Str)} {σ τ τ' : CSt} (h : Sim A D σ τ) (g : Grow A D τ τ') : Sim A D σ τ' := by
  obtain ⟨ks, ms, a1, a2, a3, a4⟩ := g
  refine ⟨by rw [a1, addNew_in A _ _ a2]; exact h.k, fun m => ?_⟩
  rw [h.d, a3, List.mem_append]
  constructor
  · rintro (h | h)
    · exact .inl h
    · exact .inr (.inl h)
  · rintro (h | h | h)
    · exact .inl h
    · exact .inr h
    · exact .inl (a4 m h)
theorem ent_sim {c : CCtx} {A : List Str} {D : List (Str × Str)} (hC : ∀ m, m ∈ D → ClM c A D m) : ∀ (n : Nat) (e : Ent) (σ τ : CSt), Sim A D σ τ → Sim A D (entF c n e σ) (entF c n e τ)
  | 0, e, σ, τ, h => h
  | n + 1, e, σ, τ, h => by
    have ih := ent_sim hC n
    by_cases hi : incF c.vars e.sel.dirs = false
    · simp only [entF, if_pos hi]; exact h
    by_cases h3 : e.sel.kind = 3
    · simp only [entF, if_neg hi, if_pos h3]
      split
      · simp only [fold_ents]; exact ents_sim ih _ _ _ h
      · exact h
    by_cases h2 : e.sel.kind = 2
    · simp only [entF, if_neg hi, if_neg h3, if_pos h2]
      cases hf : findFrag e.sel.name c.q.frags with
      | none => exact h
      | some f =>
        simp only [fold_ents]
        by_cases h4 : isF c.ds c.on f.on = true
        · by_cases h5 : (e.sel.name, labF e.lab e.sel.dirs) ∈ τ.done
          · have h6 := (h.d _).2 (.inr h5)
            rw [if_neg (fun x => x.2 h6), if_neg (fun x => x.2 h5)]; exact h
          · by_cases h6 : (e.sel.name, labF e.lab e.sel.dirs) ∈ D
            · have h7 := (h.d _).2 (.inl h6)
              rw [if_neg (fun x => x.2 h7), if_pos ⟨h4, h5⟩]
              refine h.grow (Grow.trans (s' := ⟨τ.out, τ.done ++ [(e.sel.name, labF e.lab e.sel.dirs)]⟩) ⟨[], [_], by simp [kys], by simp, rfl, fun m hm' => by rw [List.mem_singleton.1 hm']; exact h6⟩ ?_)
              refine ents_grow (ent_grow hC n) _ _ fun y hy => ?_
              obtain ⟨x, hx, rfl⟩ := List.mem_map.1 hy
              exact hC _ h6 f hf x hx
            · have h7 : ¬ (e.sel.name, labF e.lab e.sel.dirs) ∈ σ.done := fun x => by rcases (h.d _).1 x with y | y; exact h6 y; exact h5 y
              rw [if_pos ⟨h4, h7⟩, if_pos ⟨h4, h5⟩]
              refine ents_sim ih _ _ _ ⟨h.k, fun m => ?_⟩
              simp only [List.mem_append, h.d m, or_assoc]
        · rw [if_neg (fun x => h4 x.1), if_neg (fun x => h4 x.1)]; exact h
    · simp only [entF, if_neg hi, if_neg h3, if_neg h2]
      refine ⟨?_, h.d⟩
      rw [kys_add, kys_add, h.k]
      by_cases h5 : keyF e.sel ∈ kys τ
      · rw [if_pos h5, if_pos ((mem_addNew _ _).2 (.inr h5))]
      · rw [if_neg h5, addNew_snoc]
theorem two_lists {c : CCtx} {Lb : Str → Prop} {U : List (Str × Str × Nat)} (hc : COk c Lb U) {n : Nat} {l1 l2 : List Ent} (hl : ∀ e, e ∈ l1 → EntOk Lb e) (hn : entsN l1 + phi c.q [] U ≤ n) :
    kys (entsF c n (l1 ++ l2) ⟨[], []⟩) = addNew (kys (entsF c n l1 ⟨[], []⟩)) (kys (entsF c n l2 ⟨[], []⟩)) := by
  have h1 := (ents_cov hc (ent_cov hc n) l1 ⟨[], []⟩ hl hn (fun g hg => by cases hg)).2
  have hC : ∀ m, m ∈ (entsF c n l1 ⟨[], []⟩).done → ClM c (kys (entsF c n l1 ⟨[], []⟩)) (entsF c n l1 ⟨[], []⟩).done m := fun m hm => by
    rcases h1 m hm with h | h
    · cases h
    · exact h
  have hs := ents_sim (ent_sim hC n) l2 (entsF c n l1 ⟨[], []⟩) ⟨[], []⟩ ⟨rfl, fun m => by simp⟩
  have e : entsF c n (l1 ++ l2) ⟨[], []⟩ = entsF c n l2 (entsF c n l1 ⟨[], []⟩) := by simp [entsF, List.foldl_append]
  rw [e]
  exact hs.k
end Go.GB.C18


/-
  H18R: chapter 18: the law of two lists of entries.
-/
namespace Go.GB.C18
open Go.GB Go.GB.C11
set_option linter.unusedSimpArgs false
set_option linter.unusedVariables false
set_option maxRecDepth 100000
set_option maxHeartbeats 8000000
variable {P : Program}
theorem keysO_ok (H : Pr18 P) (l : List Grp) (hl : l.length ≤ 549755813888) : FnOk P 19 [.t (.lst (l.map Grp.enc))] ⟨[], 0⟩ { v := .own 0 1 ((l.map Grp.key).map sE), ob := [(0, .arr (l.map Grp.key).length)], n := 1 } := by
  refine FnOk.run H.i19 H.mixed rfl rfl ?_
  refine fR rfl ?_
  refine rList l (fun i (B : List Str) => { env := [(0, .t (.lst (l.map Grp.enc))), (3, .own 0 1 (B.map sE)), (4, .t (.int .i64 i))], s := ⟨[(0, .arr B.length)], 1⟩ }) (fun r i B => B.length = i ∧ B ++ r.map Grp.key = l.map Grp.key) 0 [] rfl ⟨rfl, rfl⟩ rfl rfl rfl ?_ ?_
  · rintro B ⟨_, hB⟩
    have e : B = l.map Grp.key := by rw [← hB]; simp
    subst e
    refine fR rfl ?_
    refine lM rfl rfl rfl ?_
    refine fM rfl ?_
    refine Run.condF rfl rfl (by simp) ?_
    refine fR rfl ?_
    refine Run.fin rfl (EndOk.chg rfl rfl (.le (.same rfl)) ?_)
    exact (by repeat' (first | exact trivial | exact LeX.t | exact LeX.top | exact LeX.nilOwn (Nat.le_of_ble_eq_true rfl) (Nat.le_of_ble_eq_true rfl) | exact LeX.ownT | exact LeX.nilT | exact LeX.same rfl | exact LeX.tEq (by simp) | exact LeX.ownEq (by simp) (Nat.le_of_ble_eq_true rfl) | exact LeX.tEq (by congr 1 <;> omega) | exact Or.inr ⟨Nat.le_of_ble_eq_true rfl, Nat.le_of_ble_eq_true rfl, rfl⟩ | refine Or.inl ⟨Nat.le_of_ble_eq_true rfl, _, rfl, ?_⟩ | refine LeO.cells ?_ | exact LeO.arr rfl | exact LeO.arr (by simp) | exact LeO.mE (by first | rfl | simp) (by first | exact Or.inl rfl | exact Or.inr rfl) | exact LeO.cE (by first | rfl | simp) | exact LeXs.cE (by first | rfl | simp) | refine LeO.map (by first | rfl | simp) ?_ (by first | exact Or.inl rfl | exact Or.inr rfl) | exact LeO.iter (by first | rfl | simp) (Nat.le_of_ble_eq_true rfl) | refine LeXs.cons ?_ ?_ | exact LeXs.nil | refine And.intro ?_ ?_))
  · rintro i x r B h1 hi hd ⟨hBl, hB⟩ ih
    have hBl' : B.length = i := hBl
    refine fR rfl ?_
    refine lM rfl rfl rfl ?_
    refine fM rfl ?_
    refine Run.condT rfl rfl (by simp; omega) ?_
    refine fR rfl ?_
    refine Mid.elemMap rfl rfl rfl h1 rfl rfl ?_
    refine fM rfl ?_
    refine apM sE B [x.key] rfl rfl rfl rfl rfl ?_ (h1 := by first | omega | (simp; omega) | (simp; done)) (h2 := by first | omega | (simp; omega) | (simp; done))
    refine fM rfl ?_
    refine aL rfl rfl rfl rfl rfl ?_
    refine fM rfl ?_
    exact rWeak 1 rfl (ih (B ++ [x.key]) ⟨by simp; omega, by rw [← hB]; simp⟩) rfl rfl rfl
theorem entsN_app : ∀ a b : List Ent, entsN (a ++ b) = entsN a + entsN b
  | [], b => by simp [entsN]
  | x :: r, b => by simp only [List.cons_append, entsN, entsN_app r b]; omega
theorem addNew_len : ∀ (l A : List Str), (addNew A l).length ≤ A.length + l.length
  | [], A => by simp [addNew]
  | k :: r, A => by
    have h : addNew A (k :: r) = addNew (if k ∈ A then A else A ++ [k]) r := rfl
    have := addNew_len r (if k ∈ A then A else A ++ [k])
    rw [h]
    split at this
    · rw [if_pos (by assumption)]; simp; omega
    · rw [if_neg (by assumption)]; simp at this ⊢; omega
theorem law_lists (H : Pr18 P) (ds : List Def) (hD : DocOk ds) (q : Query) (hq : q.Ok) (on : Str) (n : Int) (hn0 : -9223372036854775808 ≤ n ∧ n ≤ 9223372036854775807) (vars : Val) (hv : vars.Ok) (l : List Ent) (hl : l.length * 144 ≤ 140737488355328) (ho : ∀ e, e ∈ l → e.sel.Ok) (hb : bulkLL (q.frags.map Frag.enc) + bulkLL (l.map Ent.enc) ≤ 1048576) : FnOk P 6 [caseV ds q on l, .t (.int .i64 n), vars.v] ⟨[], 0⟩ { v := .t (.bool true) } := by
  obtain ⟨k1, k2, k3⟩ := case_ok (c := ⟨ds, q, on, vars⟩) hD hq hv ho hb
  simp only at k3
  generalize hN : phi q [] (marksC (labsC q l) q.frags) + entsN l = N at k3
  have hF0 : Full ([] : List Grp) := fun g hg => by cases hg
  refine FnOk.run H.i6 H.mixed rfl rfl ?_
  refine fR rfl ?_
  refine Mid.call (few_ok H ds hD q hq on l (by omega) ho) rfl rfl rfl rfl ?_
  refine fM rfl ?_
  refine lMG rfl rfl rfl rfl ?_
  refine fM rfl ?_
  refine Run.cond rfl rfl (fun hw => ?_) (fun hw => ?_)
  · refine fR rfl ?_
    refine Mid.call (knows_ok H) rfl rfl rfl rfl ?_
    refine fM rfl ?_
    refine Run.fin rfl (EndOk.go ?_); exact .t rfl
  have hw2 : 0 ≤ n ∧ n ≤ l.length := by simp at hw; omega
  obtain ⟨k, rfl⟩ : ∃ k : Nat, n = k := ⟨n.toNat, by omega⟩
  have hk : k ≤ l.length := by omega
  have e0 := List.take_append_drop k l
  have hE : entsN (l.take k) + entsN (l.drop k) = entsN l := by rw [← entsN_app, e0]
  have m1 : ∀ e, e ∈ l.take k → EntOk (· ∈ labsC q l) e := fun e he => k2 e (List.mem_of_mem_take he)
  have m2 : ∀ e, e ∈ l.drop k → EntOk (· ∈ labsC q l) e := fun e he => k2 e (List.mem_of_mem_drop he)
  have hf := fields_ok H k1 N l k2 (by omega) (by simp only; omega) (by simp only; omega)
  have hf1 := fields_ok H k1 N (l.take k) m1 (by simp; omega) (by simp only; omega) (by simp only; omega)
  have hf2 := fields_ok H k1 N (l.drop k) m2 (by simp; omega) (by simp only; omega) (by simp only; omega)
  have hp := ents_post k1 N l ⟨[], []⟩ k2 hF0
  have hp1 := ents_post k1 N (l.take k) ⟨[], []⟩ m1 hF0
  have hp2 := ents_post k1 N (l.drop k) ⟨[], []⟩ m2 hF0
  have hlaw := two_lists (n := N) k1 (l2 := l.drop k) m1 (by simp only; omega)
  rw [e0] at hlaw
  have c0 := hp.n; have c1 := hp1.n; have c2 := hp2.n
  have g0 := hp.f.len; have g1 := hp1.f.len; have g2 := hp2.f.len
  simp only [cnt] at c0 c1 c2
  unfold kys at hlaw
  simp only at hf hf1 hf2
  generalize (entsF ⟨ds, q, on, vars⟩ N l ⟨[], []⟩).out = G at *
  generalize (entsF ⟨ds, q, on, vars⟩ N (l.take k) ⟨[], []⟩).out = G1 at *
  generalize (entsF ⟨ds, q, on, vars⟩ N (l.drop k) ⟨[], []⟩).out = G2 at *
  refine fR rfl ?_
  refine Mid.call (entries_ok H l hl) rfl rfl rfl rfl ?_
  refine fM rfl ?_
  refine lTo rfl rfl rfl rfl ?_
  refine fM rfl ?_
  refine Mid.call (hf1) rfl rfl rfl rfl ?_
  skip
  refine Mid.callO [] (keysO_ok H G1 (by omega)) rfl rfl rfl rfl (by simp [stoBd]) (by repeat' (first | exact trivial | exact rfl | refine And.intro ?_ ?_ | exact (congrArg some (AObj.ren_mE _ _ _ _ _ _)).symm | exact (congrArg some (AObj.ren_cE _ _ _)).symm | (refine (congrArg some (AObj.ren_gE ?_ _ _)).symm; intro _; rfl))) rfl rfl (ob' := [(2, .arr (G1.map Grp.key).length)]) (rfl) rfl rfl ?_
  refine fM rfl ?_
  refine lFrom rfl rfl rfl rfl ?_
  refine fM rfl ?_
  refine Mid.call (hf2) rfl rfl rfl rfl ?_
  skip
  refine Mid.call (keys_ok H G2 (by omega)) rfl rfl rfl rfl ?_
  refine fM rfl ?_
  have l1 : (G1.map Grp.key).length ≤ 549755813888 := by simp; omega
  have l2 : (G2.map Grp.key).length ≤ 549755813888 := by simp; omega
  have hka := keys_ok H G (by omega)
  have hGl := g0
  generalize G1.map Grp.key = K1 at *
  generalize G2.map Grp.key = K2 at *
  have hlen := addNew_len K2 K1
  generalize hA : addNew K1 K2 = K at *
  have hK0 : K.length = G.length := by rw [← hlaw]; simp
  rw [hlaw] at hka
  rw [show renF [] 2 0 = 2 from rfl]
  refine rList K2 (fun i (B : List Str) => { env := [(3, .ptr 0 0), (5, .ptr 1 0), (7, .t (.lst (l.map Ent.enc))), (8, .own 2 1 (B.map sE)), (9, .t (.lst (K2.map sE))), (10, .t (.int .i64 i))], s := ⟨[(0, .cells [.t (.lst (ds.map Def.enc)), .t (.lst (q.ops.map Op.enc)), .t (.lst (q.frags.map Frag.enc)), .t (.str on), .t (.lst (l.map Ent.enc))]), (1, .cells [.t (.int .i64 vars.kind), .t (.int .i64 vars.int), .t (.str vars.text), .t (.lst (vars.items.map Val.enc)), .t (.lst (vars.keys.map sE))]), (2, .arr B.length)], 3⟩ }) (fun r i B => B.length ≤ K1.length + i ∧ addNew B r = K) 3 K1 rfl ⟨Nat.le_refl _, hA⟩ rfl rfl rfl ?_ ?_
  · rintro B ⟨_, hB⟩
    have e : B = K := hB
    subst e
    refine fR rfl ?_
    refine lM rfl rfl rfl ?_
    refine fM rfl ?_
    refine Run.condF rfl rfl (by simp) ?_
    refine fR rfl ?_
    refine Mid.call (hf) rfl rfl rfl rfl ?_
    skip
    refine Mid.call (hka) rfl rfl rfl rfl ?_
    refine fM rfl ?_
    refine lM rfl rfl rfl ?_
    refine fM rfl ?_
    refine lM rfl rfl rfl ?_
    refine fM rfl ?_
    refine Run.condF rfl rfl (by simp) ?_
    refine fR rfl ?_
    refine rList B (fun i (_ : Unit) => { env := [(8, .own 2 1 (B.map sE)), (11, .t (.lst (B.map sE))), (12, .t (.int .i64 i))], s := ⟨[(0, .cells [.t (.lst (ds.map Def.enc)), .t (.lst (q.ops.map Op.enc)), .t (.lst (q.frags.map Frag.enc)), .t (.str on), .t (.lst (l.map Ent.enc))]), (1, .cells [.t (.int .i64 vars.kind), .t (.int .i64 vars.int), .t (.str vars.text), .t (.lst (vars.items.map Val.enc)), .t (.lst (vars.keys.map sE))]), (2, .arr B.length)], 3⟩ }) (fun r i _ => True) 3 () rfl trivial rfl rfl rfl ?_ ?_
    · rintro _ _
      refine fR rfl ?_
      refine lM rfl rfl rfl ?_
      refine fM rfl ?_
      refine Run.condF rfl rfl (by simp) ?_
      refine fR rfl ?_
      refine Mid.call (knows_ok H) rfl rfl rfl rfl ?_
      refine fM rfl ?_
      refine Run.fin rfl (EndOk.go ?_); exact .t rfl
    · rintro i x r _ h1 hi hd _ ih
      refine fR rfl ?_
      refine lM rfl rfl rfl ?_
      refine fM rfl ?_
      refine Run.condT rfl rfl (by simp; omega) ?_
      refine fR rfl ?_
      refine Mid.elemMap rfl rfl rfl h1 rfl rfl ?_
      refine fM rfl ?_
      refine Mid.elemMap rfl rfl rfl h1 rfl rfl ?_
      refine fM rfl ?_
      refine Run.condF rfl rfl (by simp) ?_
      refine fR rfl ?_
      refine aL rfl rfl rfl rfl rfl ?_
      refine fM rfl ?_
      exact rWeak 3 rfl (ih () trivial) rfl rfl rfl
  · rintro i x r B h1 hi hd ⟨hBl, hB⟩ ih
    refine fR rfl ?_
    refine lM rfl rfl rfl ?_
    refine fM rfl ?_
    refine Run.condT rfl rfl (by simp; omega) ?_
    refine fR rfl ?_
    refine Mid.elemMap rfl rfl rfl h1 rfl rfl ?_
    refine fM rfl ?_
    refine Mid.call (has_ok H B (by omega) x) rfl rfl rfl rfl ?_
    refine fM rfl ?_
    have hB' : addNew (if x ∈ B then B else B ++ [x]) r = K := hB
    by_cases hx : x ∈ B
    · rw [if_pos hx] at hB'
      refine Run.condF rfl rfl (by simp [hx]) ?_
      refine fR rfl ?_
      refine aL rfl rfl rfl rfl rfl ?_
      refine fM rfl ?_
      exact rWeak 3 rfl (ih B ⟨by omega, hB'⟩) rfl rfl rfl
    · rw [if_neg hx] at hB'
      refine Run.condT rfl rfl (by simp [hx]) ?_
      refine fR rfl ?_
      refine Mid.elemMap rfl rfl rfl h1 rfl rfl ?_
      refine fM rfl ?_
      refine apM sE B [x] rfl rfl rfl rfl rfl ?_ (h1 := by first | omega | (simp; omega) | (simp; done)) (h2 := by first | omega | (simp; omega) | (simp; done))
      refine fM rfl ?_
      refine aL rfl rfl rfl rfl rfl ?_
      refine fM rfl ?_
      exact rWeak 3 rfl (ih (B ++ [x]) ⟨by simp; omega, hB'⟩) rfl rfl rfl
end Go.GB.C18


/-
  H18M: chapter 18: the law of the type condition.
-/
namespace Go.GB.C18
open Go.GB Go.GB.C11
set_option linter.unusedSimpArgs false
set_option linter.unusedVariables false
set_option maxRecDepth 100000
set_option maxHeartbeats 8000000
variable {P : Program}
end Go.GB.C18


/-
  D11R: shapes of chapter 11's arguments.
-/
namespace Go.GB.C11
open Go.GB

end Go.GB.C11


/-
  E13P: shapes of documents, as laws are handed them.
-/
namespace Go.GB
open Go.RowKit
set_option linter.unusedSimpArgs false
set_option linter.unusedVariables false

mutual
def Sh.low : Sh → Bool
  | .num i => i == 0
  | .lst _ s => Sh.lows s
  | _ => true
def Sh.lows : List Sh → Bool
  | [] => true
  | s :: r => s.low && Sh.lows r
end
mutual
theorem Sh.ok_mono {Y Z : Nat → T → Prop} (h : ∀ x, Y 0 x → Z 0 x) : ∀ (s : Sh) (x : T), s.low = true → s.ok Y x → s.ok Z x
  | .num i, x, hl, hx => by
    simp only [Sh.low, beq_iff_eq] at hl
    subst hl
    exact h x hx
  | .lst b s, x, hl, hx => by
    obtain ⟨xs, h1, h2, h3, h4⟩ := hx
    exact ⟨xs, h1, h2, h3, fun c hc => Sh.oks_mono h s c (by simpa [Sh.low] using hl) (h4 c hc)⟩
  | .int k, x, hl, hx => hx
  | .str, x, hl, hx => hx
  | .bool, x, hl, hx => hx
  | .any, x, hl, hx => hx
theorem Sh.oks_mono {Y Z : Nat → T → Prop} (h : ∀ x, Y 0 x → Z 0 x) : ∀ (s : List Sh) (c : List T), Sh.lows s = true → Sh.oks Y s c → Sh.oks Z s c
  | [], [], _, _ => trivial
  | [], x :: c, _, hx => by simp [Sh.oks] at hx
  | s :: r, [], _, hx => by simp [Sh.oks] at hx
  | s :: r, x :: c, hl, hx => by
    simp only [Sh.lows, Bool.and_eq_true] at hl
    simp only [Sh.oks] at hx ⊢
    exact ⟨Sh.ok_mono h s x hl.1 hx.1, Sh.oks_mono h r c hl.2 hx.2⟩
end
/-- lists of values, lists of selections -/
def YS : Nat → T → Prop
  | 0, x => YA 0 x
  | _, x => ∃ l : List Sel, x = .lst (l.map Sel.enc) ∧ l.length * 128 ≤ B47 ∧ ∀ v ∈ l, v.Ok
def selSh : List Sh := [.int .i64, .str, .str, .str, .lst 96 argSh, .lst 40 dirSh, .num 1]
def varSh : List Sh := [.str] ++ refSh ++ [.bool] ++ valSh
def opSh : List Sh := [.int .i64, .str, .lst 144 varSh, .num 1]
def fragSh : List Sh := [.str, .str, .num 1]
def querySh : List Sh := [.lst 72 opSh, .lst 56 fragSh]
theorem YS.low {x : T} (h : YS 0 x) : YA 0 x := h
theorem argN_sh {c : List T} (h : Sh.oks YA argSh c) : ∃ a : Arg, c = a.enc ∧ (a.Ok ∧ a.name.length ≤ 140737488355328) := by
  have := reach_le
  obtain ⟨x, c, rfl, ⟨n, rfl, hn⟩, g1⟩ := Sh.oks_cons h
  obtain ⟨v, c', rfl, h1, h2⟩ := val_sh (r := []) (by simpa using g1)
  obtain rfl := Sh.oks_nil h2
  exact ⟨⟨n, v⟩, by simp [Arg.enc, Val.cs], h1, by show n.length ≤ _; omega⟩
theorem dirN_sh {c : List T} (h : Sh.oks YA dirSh c) : ∃ a : Dir, c = a.enc ∧ (a.Ok ∧ ∀ y, y ∈ a.args → y.name.length ≤ 140737488355328) := by
  have := reach_le
  obtain ⟨x, c, rfl, ⟨n, rfl, hn⟩, g1⟩ := Sh.oks_cons h
  obtain ⟨x, c, rfl, hx, g2⟩ := Sh.oks_cons g1
  obtain rfl := Sh.oks_nil g2
  obtain ⟨l, rfl, h1, _, h2⟩ := list_of (fun c hc => argN_sh hc) hx
  exact ⟨⟨n, l⟩, rfl, ⟨by show l.length ≤ _; omega, fun y hy => (h2 y hy).1, by show n.length ≤ _; omega⟩, fun y hy => (h2 y hy).2⟩
theorem sel_sh {c : List T} (h : Sh.oks YS selSh c) : ∃ s : Sel, c = s.enc ∧ s.Ok := by
  have := reach_le
  obtain ⟨x, c, rfl, ⟨k, rfl, _⟩, g1⟩ := Sh.oks_cons h
  obtain ⟨x, c, rfl, ⟨al, rfl, h1⟩, g2⟩ := Sh.oks_cons g1
  obtain ⟨x, c, rfl, ⟨n, rfl, h2⟩, g3⟩ := Sh.oks_cons g2
  obtain ⟨x, c, rfl, ⟨o, rfl, h3⟩, g4⟩ := Sh.oks_cons g3
  obtain ⟨x, c, rfl, hx, g5⟩ := Sh.oks_cons g4
  obtain ⟨as, rfl, a1, _, a2⟩ := list_of (fun c hc => argN_sh hc) (Sh.ok_mono (Y := YS) (Z := YA) (fun _ h => h) _ _ (by decide) hx)
  obtain ⟨x, c, rfl, hx, g6⟩ := Sh.oks_cons g5
  obtain ⟨ds, rfl, d1, _, d2⟩ := list_of (fun c hc => dirN_sh hc) (Sh.ok_mono (Y := YS) (Z := YA) (fun _ h => h) _ _ (by decide) hx)
  obtain ⟨x, c, rfl, ⟨ss, rfl, s1, s2⟩, g7⟩ := Sh.oks_cons g6
  obtain rfl := Sh.oks_nil g7
  exact ⟨.mk k al n o as ds ss, by rw [Sel.enc_eq]; rfl, .mk (by omega) (by omega) (by omega) (by unfold B47; omega) (by omega) s1 a2 d2 s2⟩
def spS (vt st : TypeId) (e : TypeId) : Option Nat := if e = vt then some 0 else if e = st then some 1 else none
theorem sel_wt {P : Program} {vt st : TypeId} (hb : P.bytesOf vt = 80) (hs : shOf P (spV vt) 6 vt = some valSh) (hbs : P.bytesOf st = 128) (hss : shOf P (spS vt st) 12 st = some selSh) : ∀ (n : Nat) (c : List T), WT P n st c → ∃ s : Sel, c = s.enc ∧ s.Ok := by
  have hv := val_wt hb hs
  intro n
  induction n using Nat.strongRecOn with
  | _ n ih =>
    intro c h
    refine sel_sh (shOf_ok (Y := YS) n 12 st selSh c (fun e i k xs hk he hr hl hc => ?_) hss h)
    have := reach_le
    unfold spS at he
    split at he
    · rename_i e1; subst e1
      simp only [Option.some.injEq] at he; subst he
      obtain ⟨l, rfl, h3⟩ := choose_map (f := Val.enc) (Q := Val.Ok) xs fun c hcm => hv k c (hc c hcm)
      rw [hb] at hr
      exact ⟨l, rfl, by unfold B47; simp at hr; omega, h3⟩
    · split at he
      · rename_i _ e1; subst e1
        simp only [Option.some.injEq] at he; subst he
        obtain ⟨l, rfl, h3⟩ := choose_map (f := Sel.enc) (Q := Sel.Ok) xs fun c hcm => ih k hk c (hc c hcm)
        rw [hbs] at hr
        exact ⟨l, rfl, by unfold B47; simp at hr; omega, h3⟩
      · cases he
theorem spS_ok {P : Program} {vt st : TypeId} (hb : P.bytesOf vt = 80) (hs : shOf P (spV vt) 6 vt = some valSh) (hbs : P.bytesOf st = 128) (hss : shOf P (spS vt st) 12 st = some selSh) :
    ∀ e i n xs, spS vt st e = some i → xs.length * P.bytesOf e ≤ reachBytes → xs.length ≤ maxLen → (∀ c ∈ xs, WT P n e c) → YS i (.lst xs) := by
  have hv := val_wt hb hs
  have hp := sel_wt hb hs hbs hss
  intro e i k xs he hr hl hc
  have := reach_le
  unfold spS at he
  split at he
  · rename_i e1; subst e1
    simp only [Option.some.injEq] at he; subst he
    obtain ⟨l, rfl, h3⟩ := choose_map (f := Val.enc) (Q := Val.Ok) xs fun c hcm => hv k c (hc c hcm)
    rw [hb] at hr
    exact ⟨l, rfl, by unfold B47; simp at hr; omega, h3⟩
  · split at he
    · rename_i _ e1; subst e1
      simp only [Option.some.injEq] at he; subst he
      obtain ⟨l, rfl, h3⟩ := choose_map (f := Sel.enc) (Q := Sel.Ok) xs fun c hcm => hp k c (hc c hcm)
      rw [hbs] at hr
      exact ⟨l, rfl, by unfold B47; simp at hr; omega, h3⟩
    · cases he
theorem var_sh {c : List T} (h : Sh.oks YA varSh c) : ∃ a : Var, c = a.enc ∧ a.Ok := by
  have := reach_le
  obtain ⟨x, c, rfl, ⟨n, rfl, hn⟩, g1⟩ := Sh.oks_cons h
  obtain ⟨t, c, rfl, ht, g2⟩ := ref_sh g1
  obtain ⟨x, c, rfl, ⟨b, rfl⟩, g3⟩ := Sh.oks_cons g2
  obtain ⟨v, c, rfl, hv, g4⟩ := val_sh (r := []) (by simpa using g3)
  obtain rfl := Sh.oks_nil g4
  exact ⟨⟨n, t, b, v⟩, by simp [Var.enc, Val.cs], ⟨by show n.length ≤ _; omega, ht, hv⟩⟩
theorem op_sh {c : List T} (h : Sh.oks YS opSh c) : ∃ a : Op, c = a.enc ∧ a.Ok := by
  have := reach_le
  obtain ⟨x, c, rfl, ⟨k, rfl, _⟩, g1⟩ := Sh.oks_cons h
  obtain ⟨x, c, rfl, ⟨n, rfl, h1⟩, g2⟩ := Sh.oks_cons g1
  obtain ⟨x, c, rfl, hx, g3⟩ := Sh.oks_cons g2
  obtain ⟨vs, rfl, v1, _, v2⟩ := list_of (fun c hc => var_sh hc) (Sh.ok_mono (Y := YS) (Z := YA) (fun _ h => h) _ _ (by decide) hx)
  obtain ⟨x, c, rfl, ⟨ss, rfl, s1, s2⟩, g4⟩ := Sh.oks_cons g3
  obtain rfl := Sh.oks_nil g4
  unfold B47 at s1
  exact ⟨⟨k, n, vs, ss⟩, rfl, ⟨by show n.length ≤ _; omega, by show vs.length ≤ _; omega, v2, s1, s2⟩⟩
theorem frag_sh {c : List T} (h : Sh.oks YS fragSh c) : ∃ a : Frag, c = a.enc ∧ a.Ok := by
  have := reach_le
  obtain ⟨x, c, rfl, ⟨n, rfl, h1⟩, g2⟩ := Sh.oks_cons h
  obtain ⟨x, c, rfl, ⟨o, rfl, h2⟩, g3⟩ := Sh.oks_cons g2
  obtain ⟨x, c, rfl, ⟨ss, rfl, s1, s2⟩, g4⟩ := Sh.oks_cons g3
  obtain rfl := Sh.oks_nil g4
  unfold B47 at s1
  exact ⟨⟨n, o, ss⟩, rfl, ⟨by show n.length ≤ _; omega, by show o.length ≤ _; omega, s1, s2⟩⟩
theorem query_sh {r : List Sh} {c : List T} (h : Sh.oks YS (querySh ++ r) c) : ∃ (q : Query) (c' : List T), c = .lst (q.ops.map Op.enc) :: .lst (q.frags.map Frag.enc) :: c' ∧ q.Ok ∧ Sh.oks YS r c' := by
  have := reach_le
  obtain ⟨x, c, rfl, hx, g1⟩ := Sh.oks_cons h
  obtain ⟨os, rfl, o1, _, o2⟩ := list_of (fun c hc => op_sh hc) hx
  obtain ⟨x, c, rfl, hx, g2⟩ := Sh.oks_cons g1
  obtain ⟨fs, rfl, f1, _, f2⟩ := list_of (fun c hc => frag_sh hc) hx
  exact ⟨⟨os, fs⟩, c, rfl, ⟨by show os.length ≤ _; omega, o2, by show fs.length * 56 ≤ _; omega, f2⟩, g2⟩
theorem docS_sh0 {c : List T} (h : Sh.oks YS docSh c) : ∃ l : List Def, c = [.lst (l.map Def.enc)] ∧ DocOk l :=
  doc_sh0 (Sh.oks_mono (Y := YS) (Z := YA) (fun _ h => h) _ _ (by decide) h)
end Go.GB


/-
  H18N: chapter 18: shapes of its arguments.
-/
namespace Go.GB.C18
open Go.GB Go.GB.C11
set_option linter.unusedSimpArgs false
set_option linter.unusedVariables false
theorem valS_sh0 {c : List T} (h : Sh.oks YS valSh c) : ∃ v : Val, c = v.cs ∧ v.Ok := by
  obtain ⟨v, rfl, h1⟩ := val_sh0 (Sh.oks_mono (Y := YS) (Z := YA) (fun _ h => h) _ _ (by decide) h)
  exact ⟨v, Val.enc_eq v, h1⟩
theorem intS_sh0 {c : List T} (h : Sh.oks YS [.int .i64] c) : ∃ n : Int, c = [.int .i64 n] ∧ -9223372036854775808 ≤ n ∧ n ≤ 9223372036854775807 := by
  obtain ⟨x, c, rfl, ⟨n, rfl, hw⟩, g1⟩ := Sh.oks_cons h
  obtain rfl := Sh.oks_nil g1
  refine ⟨n, rfl, ?_⟩
  have h1 : IntKind.i64.min = -9223372036854775808 := by decide
  have h2 : IntKind.i64.max = 9223372036854775807 := by decide
  simp [Lit.wf, h1, h2] at hw
  omega
def entSh : List Sh := selSh ++ [.str]
theorem ent_sh {c : List T} (h : Sh.oks YS entSh c) : ∃ e : Ent, c = e.enc ∧ e.sel.Ok := by
  have := reach_le
  obtain ⟨x1, c, rfl, a1, h1⟩ := Sh.oks_cons h
  obtain ⟨x2, c, rfl, a2, h2⟩ := Sh.oks_cons h1
  obtain ⟨x3, c, rfl, a3, h3⟩ := Sh.oks_cons h2
  obtain ⟨x4, c, rfl, a4, h4⟩ := Sh.oks_cons h3
  obtain ⟨x5, c, rfl, a5, h5⟩ := Sh.oks_cons h4
  obtain ⟨x6, c, rfl, a6, h6⟩ := Sh.oks_cons h5
  obtain ⟨x7, c, rfl, a7, h7⟩ := Sh.oks_cons h6
  obtain ⟨x, c, rfl, ⟨l, rfl, hl⟩, g⟩ := Sh.oks_cons h7
  obtain rfl := Sh.oks_nil g
  obtain ⟨s, hs, ho⟩ := sel_sh (c := [x1, x2, x3, x4, x5, x6, x7]) ⟨a1, a2, a3, a4, a5, a6, a7, trivial⟩
  refine ⟨⟨s, l⟩, ?_, ho⟩
  rw [Sel.enc_eq] at hs
  simp only [Sel.cs, List.cons.injEq] at hs
  obtain ⟨rfl, rfl, rfl, rfl, rfl, rfl, rfl, _⟩ := hs
  rfl
def caseSh : List Sh := [.lst 144 defSh] ++ (querySh ++ [.str, .lst 144 entSh])
theorem case_sh0 {c : List T} (h : Sh.oks YS caseSh c) : ∃ (ds : List Def) (q : Query) (on : Str) (l : List Ent), c = [.lst (ds.map Def.enc), .lst (q.ops.map Op.enc), .lst (q.frags.map Frag.enc), .str on, .lst (l.map Ent.enc)] ∧ (DocOk ds ∧ q.Ok) ∧ l.length * 144 ≤ 140737488355328 ∧ ∀ e, e ∈ l → e.sel.Ok := by
  have := reach_le
  obtain ⟨x, c, rfl, hx, g1⟩ := Sh.oks_cons h
  obtain ⟨ds, e, hD⟩ := docS_sh0 (c := [x]) ⟨hx, trivial⟩
  obtain rfl : x = _ := by simpa using e
  obtain ⟨q, c, rfl, hq, g2⟩ := query_sh (r := [.str, .lst 144 entSh]) g1
  obtain ⟨x, c, rfl, ⟨on, rfl, ho⟩, g3⟩ := Sh.oks_cons g2
  obtain ⟨x, c, rfl, hx, g⟩ := Sh.oks_cons g3
  obtain rfl := Sh.oks_nil g
  obtain ⟨l, rfl, h1, _, h2⟩ := list_of (fun c hc => ent_sh hc) hx
  exact ⟨ds, q, on, l, rfl, ⟨hD, hq⟩, by omega, h2⟩
end Go.GB.C18

