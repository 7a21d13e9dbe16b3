/-
  YtjbpmfglccfkaaaDoorP8: lemmas of this proof (part 8). No conditions.
-/
import Derived.Test.YtjbpmfglccfkaaaDoorP7
import Derived.KernelRfl
import Derived.Test.YtjbpmfglccfkaaaDoorP4
import Derived.Test.YtjbpmfglccfkaaaDoorP6

/-
  F25F: moves: keys and joins of graphs.
-/
namespace Go.GB.C23
open Go.GB Go.GB.C11
set_option linter.unusedSimpArgs false
set_option linter.unusedVariables false
set_option maxRecDepth 100000
set_option maxHeartbeats 4000000
variable {P : Program}

structure KeyO where
  ty : Str
  graph : Int
  fields : List Str
def KeyO.enc (k : KeyO) : List T := [.str k.ty, .int .i64 k.graph, .lst (k.fields.map sE)]
structure Jn where
  ty : Str
  field : Str
  graph : Int
  ext : Bool
  req : List Str
  prov : List Str
def Jn.enc (j : Jn) : List T := [.str j.ty, .str j.field, .int .i64 j.graph, .bool j.ext, .lst (j.req.map sE), .lst (j.prov.map sE)]
structure Acc where
  k : List KeyO
  j : List Jn
  b : List Fault

def keyOf (i : Nat) (t : Def) (k : List Str) : KeyO := ⟨t.name, i, k⟩
def jnOf (i : Nat) (t : Def) (x : Field) : Jn := ⟨t.name, x.name, i, hasD ([101, 120, 116, 101, 114, 110, 97, 108] : Str) x.dirs, setM x.dirs ([114, 101, 113, 117, 105, 114, 101, 115] : Str), setM x.dirs ([112, 114, 111, 118, 105, 100, 101, 115] : Str)⟩
def kDef (i : Nat) (t : Def) : List KeyO := if t.kind = 1 then (keysD t.dirs).map (keyOf i t) else []
def jDef (i : Nat) (t : Def) : List Jn := if t.kind = 1 then t.fields.map (jnOf i t) else []
def fL (gs : List Graph) (i : Nat) (g : Graph) (t : Def) : List Field → List Fault
  | [] => []
  | x :: r => fieldF gs i g t x ++ fL gs i g t r
def bDef (gs : List Graph) (i : Nat) (g : Graph) (t : Def) : List Fault := if t.kind = 1 then keyL g t 0 (keysD t.dirs) ++ fL gs i g t t.fields else []
def kDefs (i : Nat) : List Def → List KeyO
  | [] => []
  | t :: r => kDef i t ++ kDefs i r
def jDefs (i : Nat) : List Def → List Jn
  | [] => []
  | t :: r => jDef i t ++ jDefs i r
def bDefs (gs : List Graph) (i : Nat) (g : Graph) : List Def → List Fault
  | [] => []
  | t :: r => bDef gs i g t ++ bDefs gs i g r
def kAll : Nat → List Graph → List KeyO
  | _, [] => []
  | i, g :: r => kDefs i g.doc ++ kAll (i + 1) r
def jAll : Nat → List Graph → List Jn
  | _, [] => []
  | i, g :: r => jDefs i g.doc ++ jAll (i + 1) r
def bAll (gs : List Graph) : Nat → List Graph → List Fault
  | _, [] => []
  | i, g :: r => bDefs gs i g g.doc ++ bAll gs (i + 1) r
structure JoinsB (gs : List Graph) : Prop where
  l : gs.length ≤ 140737488355328
  g : ∀ g, g ∈ gs → GK g.doc
  n : ∀ g, g ∈ gs → g.name.length ≤ 140737488355328
  k : (kAll 0 gs).length ≤ 549755813888
  j : (jAll 0 gs).length ≤ 549755813888
  b : (bAll gs 0 gs).length ≤ 549755813888

theorem joins_ok (H : Pr25 P) (gs : List Graph) (hB : JoinsB gs) : FnOk P 33 [.t (.lst (gs.map Graph.enc))] ⟨[], 0⟩
    { v := .tup [.t (.lst ((if bAll gs 0 gs = [] then kAll 0 gs else []).map KeyO.enc)), .t (.lst ((if bAll gs 0 gs = [] then jAll 0 gs else []).map Jn.enc)), .t (.lst ((bAll gs 0 gs).map Fault.enc))] } := by
  have hl := hB.l
  have hk := hB.k
  have hj := hB.j
  have hb := hB.b
  generalize hK : kAll 0 gs = K at hk ⊢
  generalize hJ : jAll 0 gs = J at hj ⊢
  generalize hF : bAll gs 0 gs = F at hb ⊢
  refine FnOk.run H.i33 H.mixed rfl rfl ?_
  refine fR rfl ?_
  refine lM rfl rfl rfl ?_
  refine fM rfl ?_
  refine rList gs (fun i (A : Acc) => { env := [(5, .own 1 3 (A.k.map KeyO.enc)), (6, .own 2 6 (A.j.map Jn.enc)), (7, .ptr 0 0), (19, .t (.lst (gs.map Graph.enc))), (20, .t (.int .i64 gs.length)), (21, .t (.int .i64 i))], s := ⟨[(0, .cells [.t (.lst (gs.map Graph.enc)), .own 3 2 (List.map Fault.enc (A.b))]), (1, .arr A.k.length), (2, .arr A.j.length), (3, .arr A.b.length)], 4⟩ }) (fun r i A => (A.k ++ kAll i r = K ∧ A.j ++ jAll i r = J) ∧ A.b ++ bAll gs i r = F) 1 ⟨[], [], []⟩ rfl ⟨⟨hK, hJ⟩, hF⟩ rfl rfl rfl ?_ ?_ (he := (by repeat' (first | exact trivial | exact LeX.t | exact LeX.top | exact LeX.nilOwn (Nat.le_of_ble_eq_true rfl) (Nat.le_of_ble_eq_true rfl) | exact LeX.ownT | exact LeX.nilT | exact LeX.same rfl | exact LeX.tEq (by simp) | exact LeX.ownEq (by simp) (Nat.le_of_ble_eq_true rfl) | exact LeX.tEq (by congr 1 <;> omega) | exact Or.inr ⟨Nat.le_of_ble_eq_true rfl, Nat.le_of_ble_eq_true rfl, rfl⟩ | refine Or.inl ⟨Nat.le_of_ble_eq_true rfl, _, rfl, ?_⟩ | refine LeO.cells ?_ | exact LeO.arr rfl | exact LeO.arr (by simp) | exact LeO.mE (by first | rfl | simp) (by first | exact Or.inl rfl | exact Or.inr rfl) | exact LeO.cE (by first | rfl | simp) | exact LeXs.cE (by first | rfl | simp) | refine LeO.map (by first | rfl | simp) ?_ (by first | exact Or.inl rfl | exact Or.inr rfl) | exact LeO.iter (by first | rfl | simp) (Nat.le_of_ble_eq_true rfl) | refine LeXs.cons ?_ ?_ | exact LeXs.nil | refine And.intro ?_ ?_))) (hs := (by repeat' (first | exact trivial | exact LeX.t | exact LeX.top | exact LeX.nilOwn (Nat.le_of_ble_eq_true rfl) (Nat.le_of_ble_eq_true rfl) | exact LeX.ownT | exact LeX.nilT | exact LeX.same rfl | exact LeX.tEq (by simp) | exact LeX.ownEq (by simp) (Nat.le_of_ble_eq_true rfl) | exact LeX.tEq (by congr 1 <;> omega) | exact Or.inr ⟨Nat.le_of_ble_eq_true rfl, Nat.le_of_ble_eq_true rfl, rfl⟩ | refine Or.inl ⟨Nat.le_of_ble_eq_true rfl, _, rfl, ?_⟩ | refine LeO.cells ?_ | exact LeO.arr rfl | exact LeO.arr (by simp) | exact LeO.mE (by first | rfl | simp) (by first | exact Or.inl rfl | exact Or.inr rfl) | exact LeO.cE (by first | rfl | simp) | exact LeXs.cE (by first | rfl | simp) | refine LeO.map (by first | rfl | simp) ?_ (by first | exact Or.inl rfl | exact Or.inr rfl) | exact LeO.iter (by first | rfl | simp) (Nat.le_of_ble_eq_true rfl) | refine LeXs.cons ?_ ?_ | exact LeXs.nil | refine And.intro ?_ ?_)))
  · rintro ⟨k, j, b⟩ ⟨⟨h1, h2⟩, h3⟩
    obtain rfl : k = K := by rw [← h1]; simp [kAll]
    obtain rfl : j = J := by rw [← h2]; simp [jAll]
    obtain rfl : b = F := by rw [← h3]; simp [bAll]
    dsimp only
    refine fR rfl ?_
    refine Run.condF rfl rfl (by simp) ?_
    refine fR rfl ?_
    refine lM rfl rfl rfl ?_
    refine fM rfl ?_
    refine Run.cond rfl rfl (fun hc => ?_) (fun hc => ?_)
    · have hc' : ¬ b = [] := by intro e; rw [e] at hc; simp at hc
      rw [if_neg hc', if_neg hc']
      refine fR rfl ?_
      refine Run.fin rfl (EndOk.go ?_); exact .tup3 (.nil rfl) (.nil rfl) (.own rfl)
    · have hc' : b = [] := by
        have : b.length = 0 := by simp at hc; simp [hc]
        exact List.length_eq_zero_iff.1 this
      subst hc'
      rw [if_pos rfl, if_pos rfl]
      refine fR rfl ?_
      refine Run.fin rfl (EndOk.go ?_); exact .tup3 (.own rfl) (.own rfl) (.nil rfl)
  · rintro i g r A h1 hi hd ⟨⟨e1, e2⟩, e3⟩ ih
    have hg := hB.g g (List.mem_of_getElem? h1)
    have hgl := hg.l
    have hlk := congrArg List.length e1
    have hlj := congrArg List.length e2
    have hlb := congrArg List.length e3
    simp only [List.length_append] at hlk hlj hlb
    refine fR rfl ?_
    refine Run.condT rfl rfl (by simp; omega) ?_
    refine fR rfl ?_
    refine Mid.elemMap rfl rfl rfl h1 rfl rfl ?_
    refine fM rfl ?_
    refine lM rfl rfl rfl ?_
    refine fM rfl ?_
    refine rList g.doc (fun m (A : Acc) => { env := [(5, .own 1 3 (A.k.map KeyO.enc)), (6, .own 2 6 (A.j.map Jn.enc)), (7, .ptr 0 0), (8, .t (.int .i64 i)), (9, .ptr 4 0), (19, .t (.lst (gs.map Graph.enc))), (20, .t (.int .i64 gs.length)), (21, .t (.int .i64 i)), (28, .t (.lst (g.doc.map Def.enc))), (29, .t (.int .i64 g.doc.length)), (30, .t (.int .i64 m))], s := ⟨[(0, .cells [.t (.lst (gs.map Graph.enc)), .own 3 2 (List.map Fault.enc (A.b))]), (1, .arr A.k.length), (2, .arr A.j.length), (3, .arr A.b.length), (4, (.cells [.t (.str g.name), .t (.lst (g.doc.map Def.enc))]))], 5⟩ }) (fun r1 m A => (A.k ++ (kDefs i r1 ++ kAll (i + 1) r) = K ∧ A.j ++ (jDefs i r1 ++ jAll (i + 1) r) = J) ∧ A.b ++ (bDefs gs i g r1 ++ bAll gs (i + 1) r) = F) 5 A rfl ⟨⟨e1, e2⟩, e3⟩ rfl rfl rfl ?_ ?_
    · rintro A ⟨⟨e1, e2⟩, e3⟩
      refine fR rfl ?_
      refine Run.condF rfl rfl (by simp) ?_
      refine fR rfl ?_
      refine aL rfl rfl rfl rfl rfl ?_
      refine fM rfl ?_
      exact rWeak 4 rfl (ih A ⟨⟨by rw [← e1]; simp [kDefs], by rw [← e2]; simp [jDefs]⟩, by rw [← e3]; simp [bDefs]⟩) rfl rfl rfl
    · rintro m t r1 A h2 hm hmd ⟨⟨e1, e2⟩, e3⟩ ih1
      have ht := hg.t t (List.mem_of_getElem? h2)
      have htl := ht.fl
      have hdl := ht.d.l
      have hkl := keysD_len t.dirs
      have hlk := congrArg List.length e1
      have hlj := congrArg List.length e2
      have hlb := congrArg List.length e3
      simp only [kDefs, jDefs, bDefs] at e1 e2 e3 hlk hlj hlb
      simp only [List.length_append] at hlk hlj hlb
      refine fR rfl ?_
      refine Run.condT rfl rfl (by simp; omega) ?_
      refine fR rfl ?_
      refine Mid.elemMap rfl rfl rfl h2 rfl rfl ?_
      refine fM rfl ?_
      by_cases hk1 : t.kind = 1
      · rw [kDef, if_pos hk1] at e1 hlk
        rw [jDef, if_pos hk1] at e2 hlj
        rw [bDef, if_pos hk1] at e3 hlb
        simp only [List.length_append] at hlb
        refine Run.condF rfl rfl (by simp [hk1]) ?_
        refine fR rfl ?_
        refine Mid.callR [0, 3] (keys_ok H gs g hg (hB.n g (List.mem_of_getElem? h1)) t ht A.b (by omega)) rfl rfl rfl rfl (by simp [stoBd]; simp [AObj.bd, V.bds, V.bd]) (by repeat' (first | exact trivial | exact rfl | refine And.intro ?_ ?_ | exact (congrArg some (AObj.ren_mE _ _ _ _ _ _)).symm | exact (congrArg some (AObj.ren_cE _ _ _)).symm)) rfl rfl (ob' := [(0, .cells [.t (.lst (gs.map Graph.enc)), .own 3 2 (List.map Fault.enc (A.b ++ keyL g t 0 (keysD t.dirs)))]), (3, .arr (A.b ++ keyL g t 0 (keysD t.dirs)).length)]) (rfl) rfl rfl ?_
        refine fM rfl ?_
        generalize keyL g t 0 (keysD t.dirs) = N1 at e3 hlb
        refine Mid.call (keysOf_ok H t ht.d) rfl rfl rfl rfl ?_
        refine lM rfl rfl rfl ?_
        refine fM rfl ?_
        generalize keysD t.dirs = KS at hkl e1 hlk
        refine rList KS (fun q (C : List KeyO) => { env := [(5, .own 1 3 (C.map KeyO.enc)), (6, .own 2 6 (A.j.map Jn.enc)), (7, .ptr 0 0), (8, .t (.int .i64 i)), (9, .ptr 4 0), (11, .ptr 5 0), (19, .t (.lst (gs.map Graph.enc))), (20, .t (.int .i64 gs.length)), (21, .t (.int .i64 i)), (28, .t (.lst (g.doc.map Def.enc))), (29, .t (.int .i64 g.doc.length)), (30, .t (.int .i64 m)), (42, .t (.lst (KS.map lE))), (43, .t (.int .i64 KS.length)), (44, .t (.int .i64 q))], s := ⟨[(0, .cells [.t (.lst (gs.map Graph.enc)), .own 3 2 (List.map Fault.enc (A.b ++ N1))]), (1, .arr C.length), (2, .arr A.j.length), (3, .arr (A.b ++ N1).length), (4, (.cells [.t (.str g.name), .t (.lst (g.doc.map Def.enc))])), (5, (.cells [.t (.int .i64 t.kind), .t (.str t.name), .t (.lst (t.implements.map sE)), .t (.lst (t.dirs.map Dir.enc)), .t (.lst (t.fields.map Field.enc)), .t (.lst (t.members.map Member.enc)), .t (.lst (t.inputs.map Input.enc))]))], 6⟩ }) (fun r2 q C => C ++ (r2.map (keyOf i t) ++ (kDefs i r1 ++ kAll (i + 1) r)) = K) 6 A.k rfl (by rw [← e1]; simp) rfl rfl rfl ?_ ?_
        · rintro C hC
          refine fR rfl ?_
          refine Run.condF rfl rfl (by simp) ?_
          refine fR rfl ?_
          refine lM rfl rfl rfl ?_
          refine fM rfl ?_
          refine rList t.fields (fun q (B : List Jn × List Fault) => { env := [(5, .own 1 3 (C.map KeyO.enc)), (6, .own 2 6 (B.1.map Jn.enc)), (7, .ptr 0 0), (8, .t (.int .i64 i)), (9, .ptr 4 0), (11, .ptr 5 0), (19, .t (.lst (gs.map Graph.enc))), (20, .t (.int .i64 gs.length)), (21, .t (.int .i64 i)), (28, .t (.lst (g.doc.map Def.enc))), (29, .t (.int .i64 g.doc.length)), (30, .t (.int .i64 m)), (58, .t (.lst (t.fields.map Field.enc))), (59, .t (.int .i64 t.fields.length)), (60, .t (.int .i64 q))], s := ⟨[(0, .cells [.t (.lst (gs.map Graph.enc)), .own 3 2 (List.map Fault.enc (B.2))]), (1, .arr C.length), (2, .arr B.1.length), (3, .arr B.2.length), (4, (.cells [.t (.str g.name), .t (.lst (g.doc.map Def.enc))])), (5, (.cells [.t (.int .i64 t.kind), .t (.str t.name), .t (.lst (t.implements.map sE)), .t (.lst (t.dirs.map Dir.enc)), .t (.lst (t.fields.map Field.enc)), .t (.lst (t.members.map Member.enc)), .t (.lst (t.inputs.map Input.enc))]))], 6⟩ }) (fun r2 q B => B.1 ++ (r2.map (jnOf i t) ++ (jDefs i r1 ++ jAll (i + 1) r)) = J ∧ B.2 ++ (fL gs i g t r2 ++ (bDefs gs i g r1 ++ bAll gs (i + 1) r)) = F) 6 (A.j, A.b ++ N1) rfl ⟨by rw [← e2]; simp, by rw [← e3]; simp⟩ rfl rfl rfl ?_ ?_
          · rintro ⟨B1, B2⟩ ⟨g1, g2⟩
            dsimp only at g1 g2 ⊢
            refine fR rfl ?_
            refine Run.condF rfl rfl (by simp) ?_
            refine fR rfl ?_
            refine aL rfl rfl rfl rfl rfl ?_
            refine fM rfl ?_
            exact rWeak 5 rfl (ih1 ⟨C, B1, B2⟩ ⟨⟨by rw [← hC]; simp, by rw [← g1]; simp⟩, by rw [← g2]; simp [fL]⟩) rfl rfl rfl
          · rintro q x r2 ⟨B1, B2⟩ h3 hq hqd ⟨g1, g2⟩ ih2
            dsimp only at g1 g2 ih2 ⊢
            have hx := ht.f x (List.mem_of_getElem? h3)
            have hl1 := congrArg List.length g1
            have hl2 := congrArg List.length g2
            simp only [fL, List.length_append, List.length_map, List.length_cons] at hl1 hl2
            refine fR rfl ?_
            refine Run.condT rfl rfl (by simp; omega) ?_
            refine fR rfl ?_
            refine Mid.elemMap rfl rfl rfl h3 rfl rfl ?_
            refine fM rfl ?_
            refine Mid.callR [0, 3] (field_ok H gs hl hB.g hB.n i g h1 t ht x hx B2 (by omega)) rfl rfl rfl rfl (by simp [stoBd]; simp [AObj.bd, V.bds, V.bd]) (by repeat' (first | exact trivial | exact rfl | refine And.intro ?_ ?_ | exact (congrArg some (AObj.ren_mE _ _ _ _ _ _)).symm | exact (congrArg some (AObj.ren_cE _ _ _)).symm)) rfl rfl (ob' := [(0, .cells [.t (.lst (gs.map Graph.enc)), .own 3 2 (List.map Fault.enc (B2 ++ fieldF gs i g t x))]), (3, .arr (B2 ++ fieldF gs i g t x).length)]) (rfl) rfl rfl ?_
            refine fM rfl ?_
            refine Mid.call (hasD_ok H.toPr23 25 x.dirs hx.d.len ([101, 120, 116, 101, 114, 110, 97, 108] : Str) (.inl rfl)) rfl rfl rfl rfl ?_
            refine fM rfl ?_
            refine Mid.call (set_ok H x.dirs hx.d ([114, 101, 113, 117, 105, 114, 101, 115] : Str)) rfl rfl rfl rfl ?_
            refine fM rfl ?_
            refine Mid.call (set_ok H x.dirs hx.d ([112, 114, 111, 118, 105, 100, 101, 115] : Str)) rfl rfl rfl rfl ?_
            refine fM rfl ?_
            refine apM Jn.enc B1 [jnOf i t x] rfl rfl rfl rfl rfl ?_ (h1 := by first | omega | (simp; omega) | (simp; done)) (h2 := by first | omega | (simp; omega) | (simp; done))
            refine fM rfl ?_
            refine aL rfl rfl rfl rfl rfl ?_
            refine fM rfl ?_
            exact rWeak 6 rfl (ih2 (B1 ++ [jnOf i t x], B2 ++ fieldF gs i g t x) ⟨by rw [← g1]; simp, by rw [← g2]; simp [fL]⟩) rfl rfl rfl
        · rintro q ks r2 C h3 hq hqd hC ih2
          have hlC := congrArg List.length hC
          simp only [List.length_append, List.length_map, List.length_cons] at hlC
          refine fR rfl ?_
          refine Run.condT rfl rfl (by simp; omega) ?_
          refine fR rfl ?_
          refine Mid.elemMap rfl rfl rfl h3 rfl rfl ?_
          refine fM rfl ?_
          refine apM KeyO.enc C [keyOf i t ks] rfl rfl rfl rfl rfl ?_ (h1 := by first | omega | (simp; omega) | (simp; done)) (h2 := by first | omega | (simp; omega) | (simp; done))
          refine fM rfl ?_
          refine aL rfl rfl rfl rfl rfl ?_
          refine fM rfl ?_
          exact rWeak 6 rfl (ih2 (C ++ [keyOf i t ks]) (by rw [← hC]; simp)) rfl rfl rfl
      · rw [kDef, if_neg hk1, List.nil_append] at e1
        rw [jDef, if_neg hk1, List.nil_append] at e2
        rw [bDef, if_neg hk1, List.nil_append] at e3
        refine Run.condT rfl rfl (by simp [hk1]) ?_
        refine fR rfl ?_
        refine aL rfl rfl rfl rfl rfl ?_
        refine fM rfl ?_
        exact rWeak 5 rfl (ih1 A ⟨⟨e1, e2⟩, e3⟩) rfl rfl rfl
end Go.GB.C23


/-
  F25G: moves: joins, keys and requirements of supergraphs.
-/
namespace Go.GB.C23
open Go.GB Go.GB.C11
set_option linter.unusedSimpArgs false
set_option linter.unusedVariables false
set_option maxRecDepth 100000
set_option maxHeartbeats 4000000
variable {P : Program}

theorem clone25_ok (H : Pr25 P) (l : List Str) (hl : l.length * 16 ≤ 140737488355328) : FnOk P 68 [.t (.lst (l.map sE))] ⟨[], 0⟩ { v := .t (.lst (l.map sE)) } := by
  refine FnOk.run H.i68 H.mixed rfl rfl ?_
  refine fR rfl ?_
  refine p0 rfl ?_
  refine fM rfl ?_
  refine Run.condU rfl rfl (fun h => ?_) (fun _ => ?_)
  · have hn : l = [] := by
      cases l with
      | nil => rfl
      | cons x r =>
        have := h (sE x) (by simp)
        simp [sE] at this
    subst hn
    refine fR rfl ?_
    refine Run.fin rfl (EndOk.go ?_); exact .nil rfl
  · refine fR rfl ?_
    refine apN sE l rfl rfl rfl ?_ (h1 := hl) (h2 := by omega)
    refine fM rfl ?_
    refine Run.fin rfl (EndOk.go ?_); exact .own rfl
def Jn.v (j : Jn) : V := .agg [.t (.str j.ty), .t (.str j.field), .t (.int .i64 j.graph), .t (.bool j.ext), .t (.lst (j.req.map sE)), .t (.lst (j.prov.map sE))]
structure Jn.Ok (j : Jn) : Prop where
  r : j.req.length * 16 ≤ 140737488355328
  p : j.prov.length * 16 ≤ 140737488355328
def Jn.zero : Jn := ⟨[], [], 0, false, [], []⟩
theorem Jn.zero_ok : Jn.zero.Ok := ⟨by decide, by decide⟩
/-- a supergraph -/
def superV (a b : T) (ks : List KeyO) (js : List Jn) : V := .agg [.t a, .t b, .t (.lst (ks.map KeyO.enc)), .t (.lst (js.map Jn.enc))]
def isJ (n f : Str) (g : Int) (j : Jn) : Bool := (j.ty == n && j.field == f) && j.graph == g
def findJ (n f : Str) (g : Int) : List Jn → Option Jn
  | [] => none
  | j :: r => if isJ n f g j = true then some j else findJ n f g r
theorem findJ_ok (H : Pr25 P) (a b : T) (ks : List KeyO) (js : List Jn) (hl : js.length ≤ 140737488355328) (hj : ∀ j, j ∈ js → j.Ok) (n f : Str) (g : Int) : FnOk P 38 [superV a b ks js, .t (.str n), .t (.str f), .t (.int .i64 g)] ⟨[], 0⟩ { v := .tup [((findJ n f g js).getD Jn.zero).v, .t (.bool (findJ n f g js).isSome)] } := by
  refine FnOk.run H.i38 H.mixed rfl rfl ?_
  refine fR rfl ?_
  refine lM rfl rfl rfl ?_
  refine fM rfl ?_
  refine rList js (fun i (_ : Unit) => { env := [(1, .t (.str n)), (2, .t (.str f)), (3, .t (.int .i64 g)), (8, .ptr 1 0), (13, .t (.lst (js.map Jn.enc))), (14, .t (.int .i64 js.length)), (15, .t (.int .i64 i))], s := ⟨[(1, (.cells [.t (.str []), .t (.str []), .t (.int .i64 0), .t (.bool false), .nils, .nils]))], 2⟩ }) (fun r i _ => findJ n f g js = findJ n f g r) 2 () rfl rfl rfl rfl rfl ?_ ?_
  · intro _ hinv
    refine fR rfl ?_
    refine Run.condF rfl rfl (by simp) ?_
    refine fR rfl ?_
    have e : findJ n f g js = none := by rw [hinv]; rfl
    rw [e]
    refine Run.fin rfl (EndOk.go ?_); exact .tup2 (.agg (.cons (.t rfl) (.cons (.t rfl) (.cons (.t rfl) (.cons (.t rfl) (.cons (.nil rfl) (.cons (.nil rfl) .nil))))))) (.t rfl)
  · intro i x r _ h1 hi hd hinv ih
    have hx := hj x (List.mem_of_getElem? h1)
    refine fR rfl ?_
    refine Run.condT rfl rfl (by simp; omega) ?_
    refine fR rfl ?_
    refine Mid.elemMap rfl rfl rfl h1 rfl rfl ?_
    refine fM rfl ?_
    refine Run.cond rfl rfl (fun h => ?_) (fun h => ?_)
    · have h' : isJ n f g x = true := h
      have e : findJ n f g js = some x := by rw [hinv, findJ, if_pos h']
      rw [e]
      refine fR rfl ?_
      refine Mid.call (clone25_ok H x.req hx.r) rfl rfl rfl rfl ?_
      refine fM rfl ?_
      refine Mid.call (clone25_ok H x.prov hx.p) rfl rfl rfl rfl ?_
      refine fM rfl ?_
      refine Run.fin rfl (EndOk.go ?_); exact .tup2 (.le (.same rfl)) (.t rfl)
    · have h' : ¬ isJ n f g x = true := by unfold isJ; rw [h]; simp
      refine fR rfl ?_
      refine aL rfl rfl rfl rfl rfl ?_
      refine fM rfl ?_
      exact rWeak 2 rfl (ih () (by rw [hinv, findJ, if_neg h'])) rfl rfl rfl
def isK (n : Str) (g : Int) (k : KeyO) : Bool := k.ty == n && k.graph == g
def keysS (n : Str) (g : Int) : List KeyO → List (List Str)
  | [] => []
  | k :: r => (if isK n g k = true then [k.fields] else []) ++ keysS n g r
theorem keysJ_ok (H : Pr25 P) (a b : T) (ks : List KeyO) (js : List Jn) (hl : ks.length ≤ 1000) (hk : ∀ k, k ∈ ks → k.fields.length * 16 ≤ 140737488355328) (n : Str) (g : Int) : FnOk P 40 [superV a b ks js, .t (.str n), .t (.int .i64 g)] ⟨[], 0⟩ { v := .t (.lst ((keysS n g ks).map lE)) } := by
  have hR : ∀ R, keysS n g ks = R → FnOk P 40 [superV a b ks js, .t (.str n), .t (.int .i64 g)] ⟨[], 0⟩ { v := .t (.lst (R.map lE)) } := by
    intro R hR
    refine FnOk.run H.i40 H.mixed rfl rfl ?_
    refine fR rfl ?_
    refine lM rfl rfl rfl ?_
    refine fM rfl ?_
    refine rList ks (fun i (B : List (List Str)) => { env := [(1, .t (.str n)), (2, .t (.int .i64 g)), (7, .own 1 1 (B.map lE)), (11, .t (.lst (ks.map KeyO.enc))), (12, .t (.int .i64 ks.length)), (13, .t (.int .i64 i))], s := ⟨[(1, .arr B.length)], 2⟩ }) (fun r i B => B.length ≤ i ∧ B ++ keysS n g r = R) 1 [] rfl ⟨by simp, hR⟩ rfl rfl rfl ?_ ?_
    · rintro B ⟨_, hB⟩
      obtain rfl : B = R := by rw [← hB]; simp [keysS]
      refine fR rfl ?_
      refine Run.condF rfl rfl (by simp) ?_
      refine fR rfl ?_
      refine Run.fin rfl (EndOk.go ?_); exact .own rfl
    · rintro i x r B h1 hi hd ⟨hBl, hB⟩ ih
      have hBl' : B.length ≤ i := hBl
      have hx := hk x (List.mem_of_getElem? h1)
      have hB2 : B ++ ((if isK n g x = true then [x.fields] else []) ++ keysS n g r) = R := hB
      refine fR rfl ?_
      refine Run.condT rfl rfl (by simp; omega) ?_
      refine fR rfl ?_
      refine Mid.elemMap rfl rfl rfl h1 rfl rfl ?_
      refine fM rfl ?_
      refine Run.cond rfl rfl (fun h => ?_) (fun h => ?_)
      · have h' : isK n g x = true := h
        rw [if_pos h'] at hB2
        refine fR rfl ?_
        refine Mid.call (clone25_ok H x.fields hx) rfl rfl rfl rfl ?_
        refine fM rfl ?_
        refine apM lE B [x.fields] rfl rfl rfl rfl rfl ?_ (h1 := by first | omega | (simp; omega) | (simp; done)) (h2 := by first | omega | (simp; omega) | (simp; done))
        refine fM rfl ?_
        refine aL rfl rfl rfl rfl rfl ?_
        refine fM rfl ?_
        exact rWeak 2 rfl (ih (B ++ [x.fields]) ⟨by simp; omega, by rw [← hB2]; simp⟩) rfl rfl rfl
      · have h' : ¬ isK n g x = true := by unfold isK; rw [h]; simp
        rw [if_neg h', List.nil_append] at hB2
        refine fR rfl ?_
        refine aL rfl rfl rfl rfl rfl ?_
        refine fM rfl ?_
        exact rWeak 2 rfl (ih B ⟨by omega, hB2⟩) rfl rfl rfl
  exact hR _ rfl
end Go.GB.C23


/-
  F25H: moves: the examples; the law of what is found.
-/
namespace Go.GB.C23
open Go.GB Go.GB.C11
set_option linter.unusedSimpArgs false
set_option linter.unusedVariables false
set_option maxRecDepth 100000
set_option maxHeartbeats 4000000
variable {P : Program}

def nUser : Str := [85, 115, 101, 114]
def keyDir : Dir := ⟨[107, 101, 121], [⟨[102, 105, 101, 108, 100, 115], .mk 3 0 [105, 100] [] []⟩]⟩
def idField : Field := ⟨[105, 100], [], ⟨[73, 68], [1]⟩, []⟩
def userD (fl : Str) : Def := ⟨1, nUser, [], [keyDir], [idField, ⟨fl, [], ⟨[83, 116, 114, 105, 110, 103], []⟩, []⟩], [], []⟩
def userG (nm fl : Str) : Graph := ⟨nm, [userD fl]⟩
theorem user_ok (H : Pr25 P) (nm fl : Str) : FnOk P 60 [.t (.str nm), .t (.str fl)] ⟨[], 0⟩ { v := (userG nm fl).v } := by
  refine FnOk.run H.i60 H.mixed rfl rfl ?_
  refine fR rfl ?_
  refine Run.fin rfl (EndOk.go ?_); exact .agg (.cons (.t rfl) (.cons (.own rfl) .nil))

theorem keyDir_ok : DOk keyDir := by
  refine ⟨by decide, by decide, fun a ha => ?_⟩
  simp [keyDir] at ha; subst ha
  exact ⟨by decide, .mk (by decide) (by decide) (by simp) (by decide) (by simp), by decide⟩
theorem userD_ok (fl : Str) (hf : fl.length ≤ 1000) : GK [userD fl] := by
  refine ⟨⟨(Nat.le_of_ble_eq_true rfl), ?_, (Nat.le_of_ble_eq_true rfl)⟩, (Nat.le_of_ble_eq_true rfl), ?_⟩
  · intro t ht
    simp at ht; subst ht
    refine ⟨(Nat.le_of_ble_eq_true rfl), (Nat.le_of_ble_eq_true rfl), ?_, by simp [userD], ?_, (Nat.le_of_ble_eq_true rfl), by simp [userD], (Nat.le_of_ble_eq_true rfl), by simp [userD], (Nat.le_of_ble_eq_true rfl), by simp [userD]⟩
    · intro d hd
      simp [userD] at hd; subst hd
      refine ⟨(Nat.le_of_ble_eq_true rfl), fun a ha => ?_, (Nat.le_of_ble_eq_true rfl)⟩
      simp [keyDir] at ha; subst ha
      exact .mk ((Nat.le_of_ble_eq_true rfl)) ((Nat.le_of_ble_eq_true rfl)) (by simp) ((Nat.le_of_ble_eq_true rfl)) (by simp)
    · intro x hx
      simp [userD] at hx
      rcases hx with rfl | rfl
      · exact ⟨(Nat.le_of_ble_eq_true rfl), by simp [idField], ⟨(Nat.le_of_ble_eq_true rfl), (Nat.le_of_ble_eq_true rfl)⟩, (Nat.le_of_ble_eq_true rfl), by simp [idField], (Nat.le_of_ble_eq_true rfl)⟩
      · exact ⟨(Nat.le_of_ble_eq_true rfl), by simp, ⟨(Nat.le_of_ble_eq_true rfl), (Nat.le_of_ble_eq_true rfl)⟩, (Nat.le_of_ble_eq_true rfl), by simp, by show fl.length ≤ _; omega⟩
  · intro t ht
    simp at ht; subst ht
    refine ⟨⟨(Nat.le_of_ble_eq_true rfl), fun d hd => ?_⟩, by simp [userD], fun x hx => ?_, (Nat.le_of_ble_eq_true rfl)⟩
    · simp [userD] at hd; subst hd; exact keyDir_ok
    · simp [userD] at hx
      rcases hx with rfl | rfl
      · exact ⟨DK.nil, (Nat.le_of_ble_eq_true rfl), (Nat.le_of_ble_eq_true rfl), (Nat.le_of_ble_eq_true rfl)⟩
      · exact ⟨DK.nil, (Nat.le_of_ble_eq_true rfl), (Nat.le_of_ble_eq_true rfl), by show fl.length ≤ _; omega⟩

def nName : Str := [110, 97, 109, 101]
def nPosts : Str := [112, 111, 115, 116, 115]
def g1 : List Graph := [userG [97] nName, userG [98] nPosts]
def g2 : List Graph := [userG [97] nName, userG [98] nName]
def k1 : List KeyO := [⟨nUser, 0, [[105, 100]]⟩, ⟨nUser, 1, [[105, 100]]⟩]
def j1 : List Jn := [⟨nUser, [105, 100], 0, false, [], []⟩, ⟨nUser, nName, 0, false, [], []⟩, ⟨nUser, [105, 100], 1, false, [], []⟩, ⟨nUser, nPosts, 1, false, [], []⟩]
def b2 : List Fault := [⟨40, [97, 58, 85, 115, 101, 114, 46, 110, 97, 109, 101]⟩, ⟨40, [98, 58, 85, 115, 101, 114, 46, 110, 97, 109, 101]⟩]
theorem g1_k : kAll 0 g1 = k1 := by kernel_rfl
theorem g1_j : jAll 0 g1 = j1 := by kernel_rfl
theorem g1_b : bAll g1 0 g1 = [] := by kernel_rfl
theorem g2_b : bAll g2 0 g2 = b2 := by kernel_rfl
theorem g2_k : (kAll 0 g2).length = 2 := by kernel_rfl
theorem g2_j : (jAll 0 g2).length = 4 := by kernel_rfl
theorem gs_ok {n1 n2 f1 f2 : Str} (h1 : f1.length ≤ 1000) (h2 : f2.length ≤ 1000) : ∀ g, g ∈ [userG n1 f1, userG n2 f2] → GK g.doc := by
  intro g hg
  simp at hg
  rcases hg with rfl | rfl
  · exact userD_ok _ h1
  · exact userD_ok _ h2
theorem g1_ok : JoinsB g1 := ⟨by decide, gs_ok (by decide) (by decide), by decide, by rw [g1_k]; decide, by rw [g1_j]; decide, by rw [g1_b]; decide⟩
theorem g2_ok : JoinsB g2 := ⟨by decide, gs_ok (by decide) (by decide), by decide, by rw [g2_k]; decide, by rw [g2_j]; decide, by rw [g2_b]; decide⟩
theorem j1_ok : ∀ j, j ∈ j1 → j.Ok := by
  intro j hj
  simp [j1] at hj
  rcases hj with rfl | rfl | rfl | rfl <;> exact ⟨by decide, by decide⟩
theorem ex32_ok (H : Pr25 P) : FnOk P 32 [] ⟨[], 0⟩ { v := .t (.bool true) } := by
  have h1 := joins_ok H g1 g1_ok
  rw [g1_b, if_pos rfl, if_pos rfl, g1_k, g1_j] at h1
  have h2 := joins_ok H g2 g2_ok
  rw [g2_b, if_neg (by decide), if_neg (by decide)] at h2
  have h3 := findJ_ok H (.lst []) (.lst []) k1 j1 (by decide) j1_ok nUser nName 0
  have h4 := findJ_ok H (.lst []) (.lst []) k1 j1 (by decide) j1_ok nUser nName 1
  have h5 := keysJ_ok H (.lst []) (.lst []) k1 j1 (by decide) (by intro k hk; simp [k1] at hk; rcases hk with rfl | rfl <;> decide) nUser 1
  rw [show keysS nUser 1 k1 = [[[105, 100]]] by kernel_rfl] at h5
  rw [show (findJ nUser nName 0 j1).getD Jn.zero = ⟨nUser, nName, 0, false, [], []⟩ by kernel_rfl, show (findJ nUser nName 0 j1).isSome = true by kernel_rfl] at h3
  rw [show (findJ nUser nName 1 j1).getD Jn.zero = Jn.zero by kernel_rfl, show (findJ nUser nName 1 j1).isSome = false by kernel_rfl] at h4
  refine FnOk.run H.i32 H.mixed rfl rfl ?_
  refine fR rfl ?_
  refine Mid.call (user_ok H [97] nName) rfl rfl rfl rfl ?_
  refine Mid.call (user_ok H [98] nPosts) rfl rfl rfl rfl ?_
  refine Mid.bslP rfl rfl rfl ?_
  skip
  refine Mid.call (h1) rfl rfl rfl rfl ?_
  refine fM rfl ?_
  refine Mid.call (user_ok H [97] nName) rfl rfl rfl rfl ?_
  refine Mid.call (user_ok H [98] nName) rfl rfl rfl rfl ?_
  refine Mid.bslP rfl rfl rfl ?_
  skip
  refine Mid.call (h2) rfl rfl rfl rfl ?_
  refine fM rfl ?_
  refine lM rfl rfl rfl ?_
  refine fM rfl ?_
  refine lMG rfl rfl rfl rfl ?_
  refine fM rfl ?_
  refine lMG rfl rfl rfl rfl ?_
  refine fM rfl ?_
  refine lMG rfl rfl rfl rfl ?_
  refine fM rfl ?_
  refine Run.condF rfl rfl (by decide) ?_
  refine Run.fast (f := 6) rfl trivial ?_
  refine Mid.done0 rfl ?_
  refine rWeakC 1 rfl (st' := { env := [(6, .t (.lst (b2.map Fault.enc))), (7, .ptr 0 0)], s := ⟨[(0, .cells [.t (.lst []), .t (.lst []), .t (.lst (k1.map KeyO.enc)), .t (.lst (j1.map Jn.enc))])], 1⟩ }) ?_ rfl rfl rfl
  refine fR rfl ?_
  refine Mid.call (h3) rfl rfl rfl rfl ?_
  refine fM rfl ?_
  refine Mid.call (h4) rfl rfl rfl rfl ?_
  refine fM rfl ?_
  refine caG rfl rfl (fun hg => ⟨_, rfl, h5, rfl⟩) rfl rfl ?_
  refine lMG rfl rfl rfl rfl ?_
  refine fM rfl ?_
  refine gr rfl ?_
  refine fM rfl ?_
  refine gr rfl ?_
  refine fM rfl ?_
  refine gr rfl ?_
  refine fM rfl ?_
  refine gr rfl ?_
  refine fM rfl ?_
  refine Run.fin rfl (EndOk.go ?_); exact .t rfl
end Go.GB.C23


/-
  D11U: contracts of chapter 11's functions: the parts of the schema's check.
-/
namespace Go.GB.C11
open Go.GB
set_option linter.unusedSimpArgs false
set_option linter.unusedVariables false
set_option maxRecDepth 100000
set_option maxHeartbeats 2000000
variable {P : Program}

theorem namesO_ok (H : Pr P) (n : Str) (hn : n.length ≤ 140737488355328) (bad twice : Bool) (at_ : Str) : FnOk P 98 [.t (.str n), .t (.bool bad), .t (.bool twice), .t (.str at_)] ⟨[], 0⟩ { v := .own 0 2 ((namesF n bad twice at_).map Fault.enc), ob := [(0, .arr (namesF n bad twice at_).length)], n := 1 } := by
  refine FnOk.run H.i98 H.mixed rfl rfl ?_
  refine fR rfl ?_
  refine caG rfl rfl (fun hg => ⟨_, rfl, allowed_ok H n hn, rfl⟩) rfl rfl ?_
  refine fM rfl ?_
  refine Run.cond rfl rfl (fun h => ?_) (fun h => ?_)
  · refine fR rfl ?_
    refine apN Fault.enc [(⟨6, at_⟩ : Fault)] rfl rfl rfl ?_ (h1 := by first | omega | (simp; omega) | (simp; done)) (h2 := by first | omega | (simp; omega) | (simp; done))
    refine fM rfl ?_
    cases twice with
    | true =>
      refine Run.condT rfl rfl rfl ?_
      refine fR rfl ?_
      refine apM Fault.enc [(⟨6, at_⟩ : Fault)] [(⟨7, at_⟩ : Fault)] rfl rfl rfl rfl rfl ?_ (h1 := by first | omega | (simp; omega) | (simp; done)) (h2 := by first | omega | (simp; omega) | (simp; done))
      refine fM rfl ?_
      have e : namesF n bad true at_ = [⟨6, at_⟩] ++ [⟨7, at_⟩] := by unfold namesF; rw [if_pos h, if_pos rfl]
      rw [e]
      refine Run.fin rfl (EndOk.chg rfl rfl ?_ ?_)
      · exact .le (.same rfl)
      · exact (by repeat' (first | exact trivial | exact LeX.t | exact LeX.top | exact LeX.nilOwn (Nat.le_of_ble_eq_true rfl) (Nat.le_of_ble_eq_true rfl) | exact LeX.ownT | exact LeX.nilT | exact LeX.same rfl | exact LeX.tEq (by simp) | exact LeX.ownEq (by simp) (Nat.le_of_ble_eq_true rfl) | exact LeX.tEq (by congr 1 <;> omega) | exact Or.inr ⟨Nat.le_of_ble_eq_true rfl, Nat.le_of_ble_eq_true rfl, rfl⟩ | refine Or.inl ⟨Nat.le_of_ble_eq_true rfl, _, rfl, ?_⟩ | refine LeO.cells ?_ | exact LeO.arr rfl | exact LeO.arr (by simp) | exact LeO.mE (by first | rfl | simp) (by first | exact Or.inl rfl | exact Or.inr rfl) | exact LeO.cE (by first | rfl | simp) | exact LeXs.cE (by first | rfl | simp) | refine LeO.map (by first | rfl | simp) ?_ (by first | exact Or.inl rfl | exact Or.inr rfl) | exact LeO.iter (by first | rfl | simp) (Nat.le_of_ble_eq_true rfl) | refine LeXs.cons ?_ ?_ | exact LeXs.nil | refine And.intro ?_ ?_))
    | false =>
      refine Run.condF rfl rfl rfl ?_
      refine fR rfl ?_
      have e : namesF n bad false at_ = [⟨6, at_⟩] := by unfold namesF; rw [if_pos h, if_neg (by simp)]; rfl
      rw [e]
      refine Run.fin rfl (EndOk.chg rfl rfl ?_ ?_)
      · exact .le (.same rfl)
      · exact (by repeat' (first | exact trivial | exact LeX.t | exact LeX.top | exact LeX.nilOwn (Nat.le_of_ble_eq_true rfl) (Nat.le_of_ble_eq_true rfl) | exact LeX.ownT | exact LeX.nilT | exact LeX.same rfl | exact LeX.tEq (by simp) | exact LeX.ownEq (by simp) (Nat.le_of_ble_eq_true rfl) | exact LeX.tEq (by congr 1 <;> omega) | exact Or.inr ⟨Nat.le_of_ble_eq_true rfl, Nat.le_of_ble_eq_true rfl, rfl⟩ | refine Or.inl ⟨Nat.le_of_ble_eq_true rfl, _, rfl, ?_⟩ | refine LeO.cells ?_ | exact LeO.arr rfl | exact LeO.arr (by simp) | exact LeO.mE (by first | rfl | simp) (by first | exact Or.inl rfl | exact Or.inr rfl) | exact LeO.cE (by first | rfl | simp) | exact LeXs.cE (by first | rfl | simp) | refine LeO.map (by first | rfl | simp) ?_ (by first | exact Or.inl rfl | exact Or.inr rfl) | exact LeO.iter (by first | rfl | simp) (Nat.le_of_ble_eq_true rfl) | refine LeXs.cons ?_ ?_ | exact LeXs.nil | refine And.intro ?_ ?_))
  · refine fR rfl ?_
    have h' : ¬ (bad || !allowedF n) = true := by rw [h]; simp
    refine rWeakC 0 rfl (st' := { env := [(3, .t (.str at_)), (9, .own 0 2 ([].map Fault.enc)), (21, .t (.bool twice))], s := ⟨[(0, .arr 0)], 1⟩ }) ?_ rfl rfl rfl
    cases twice with
    | true =>
      refine Run.condT rfl rfl rfl ?_
      refine fR rfl ?_
      refine apM Fault.enc [] [(⟨7, at_⟩ : Fault)] rfl rfl rfl rfl rfl ?_ (h1 := by first | omega | (simp; omega) | (simp; done)) (h2 := by first | omega | (simp; omega) | (simp; done))
      refine fM rfl ?_
      have e : namesF n bad true at_ = [⟨7, at_⟩] := by unfold namesF; rw [if_neg h', if_pos rfl]; rfl
      rw [e]
      refine Run.fin rfl (EndOk.chg rfl rfl ?_ ?_)
      · exact .le (.same rfl)
      · exact (by repeat' (first | exact trivial | exact LeX.t | exact LeX.top | exact LeX.nilOwn (Nat.le_of_ble_eq_true rfl) (Nat.le_of_ble_eq_true rfl) | exact LeX.ownT | exact LeX.nilT | exact LeX.same rfl | exact LeX.tEq (by simp) | exact LeX.ownEq (by simp) (Nat.le_of_ble_eq_true rfl) | exact LeX.tEq (by congr 1 <;> omega) | exact Or.inr ⟨Nat.le_of_ble_eq_true rfl, Nat.le_of_ble_eq_true rfl, rfl⟩ | refine Or.inl ⟨Nat.le_of_ble_eq_true rfl, _, rfl, ?_⟩ | refine LeO.cells ?_ | exact LeO.arr rfl | exact LeO.arr (by simp) | exact LeO.mE (by first | rfl | simp) (by first | exact Or.inl rfl | exact Or.inr rfl) | exact LeO.cE (by first | rfl | simp) | exact LeXs.cE (by first | rfl | simp) | refine LeO.map (by first | rfl | simp) ?_ (by first | exact Or.inl rfl | exact Or.inr rfl) | exact LeO.iter (by first | rfl | simp) (Nat.le_of_ble_eq_true rfl) | refine LeXs.cons ?_ ?_ | exact LeXs.nil | refine And.intro ?_ ?_))
    | false =>
      refine Run.condF rfl rfl rfl ?_
      refine fR rfl ?_
      have e : namesF n bad false at_ = [] := by unfold namesF; rw [if_neg h', if_neg (by simp)]; rfl
      rw [e]
      refine Run.fin rfl (EndOk.chg rfl rfl ?_ ?_)
      · exact .le (.same rfl)
      · exact (by repeat' (first | exact trivial | exact LeX.t | exact LeX.top | exact LeX.nilOwn (Nat.le_of_ble_eq_true rfl) (Nat.le_of_ble_eq_true rfl) | exact LeX.ownT | exact LeX.nilT | exact LeX.same rfl | exact LeX.tEq (by simp) | exact LeX.ownEq (by simp) (Nat.le_of_ble_eq_true rfl) | exact LeX.tEq (by congr 1 <;> omega) | exact Or.inr ⟨Nat.le_of_ble_eq_true rfl, Nat.le_of_ble_eq_true rfl, rfl⟩ | refine Or.inl ⟨Nat.le_of_ble_eq_true rfl, _, rfl, ?_⟩ | refine LeO.cells ?_ | exact LeO.arr rfl | exact LeO.arr (by simp) | exact LeO.mE (by first | rfl | simp) (by first | exact Or.inl rfl | exact Or.inr rfl) | exact LeO.cE (by first | rfl | simp) | exact LeXs.cE (by first | rfl | simp) | refine LeO.map (by first | rfl | simp) ?_ (by first | exact Or.inl rfl | exact Or.inr rfl) | exact LeO.iter (by first | rfl | simp) (Nat.le_of_ble_eq_true rfl) | refine LeXs.cons ?_ ?_ | exact LeXs.nil | refine And.intro ?_ ?_))
def rootS (n : Str) : Bool := n == [81, 117, 101, 114, 121] || n == [77, 117, 116, 97, 116, 105, 111, 110] || n == [83, 117, 98, 115, 99, 114, 105, 112, 116, 105, 111, 110]
def badKind (d : Def) : Bool := (rootS d.name && d.kind != 1) || decide (d.kind < 1) || decide (d.kind > 5)
def twiceF (ds : List Def) (i : Nat) (n : Str) : Bool := scalF n || (ds.take i).any fun o => o.name == n
def wholeF (ds : List Def) (i : Nat) (d : Def) : List Fault :=
  namesF d.name false (twiceF ds i d.name) d.name ++ (if emptyF d = true then [⟨8, d.name⟩] else []) ++ (if badKind d = true then [⟨9, d.name⟩] else []) ++ (if circB ds d = true then [⟨5, d.name⟩] else [])
theorem namesF_len (n : Str) (a b : Bool) (s : Str) : (namesF n a b s).length ≤ 2 := by
  unfold namesF; split <;> split <;> simp
theorem whole_ok (H : Pr P) (ds : List Def) (hD : DocOk ds) (hil : ∀ o, o ∈ ds → o.inputs.length ≤ 2199023255552) (i : Nat) (d : Def) (h : ds[i]? = some d) : FnOk P 76 [docV ds, .t (.int .i64 i)] ⟨[], 0⟩ { v := .t (.lst ((wholeF ds i d).map Fault.enc)) } := by
  have hdm := List.mem_of_getElem? h
  have hd := hD.d d hdm
  have hnm := hd.nm
  have hdl := hD.l
  have hi : i < ds.length := (List.getElem?_eq_some_iff.1 h).1
  have hnl := namesF_len d.name false (twiceF ds i d.name) d.name
  have e0 : twiceF ds i d.name = (scalF d.name || (ds.take i).any fun o => o.name == d.name) := rfl
  refine FnOk.run H.i76 H.mixed rfl rfl ?_
  refine fR rfl ?_
  refine Mid.elemMap rfl rfl rfl h rfl rfl ?_
  refine fM rfl ?_
  refine Mid.call (rScalar_ok H d.name) rfl rfl rfl rfl ?_
  refine fM rfl ?_
  refine rList (ds.take i) (fun j (B : Bool) => { env := [(1, .t (.int .i64 i)), (2, .ptr 0 0), (5, .ptr 1 0), (6, .t (.bool B)), (7, .t (.int .i64 j))], s := ⟨[(0, .cells [.t (.lst (ds.map Def.enc))]), (1, .cells [.t (.int .i64 d.kind), .t (.str d.name), .t (.lst (d.implements.map sE)), .t (.lst (d.dirs.map Dir.enc)), .t (.lst (d.fields.map Field.enc)), .t (.lst (d.members.map Member.enc)), .t (.lst (d.inputs.map Input.enc))])], 2⟩ }) (fun r j B => twiceF ds i d.name = (B || r.any fun o => o.name == d.name)) 2 (scalF d.name) rfl e0 rfl rfl rfl ?_ ?_
  · intro B hB
    have hl : (ds.take i).length = i := by simp; omega
    have hB' : twiceF ds i d.name = B := by rw [hB]; simp
    rw [hl]
    have t0 : ∀ L : List Fault, L.length ≤ 5 → L = wholeF ds i d → Run P n76 0 (EndOk ⟨[], 0⟩ { v := .t (.lst ((wholeF ds i d).map Fault.enc)) } r76 .ret) (advK 200 [It.c c76_0]) { env := [(8, .own 2 2 (L.map Fault.enc))], s := ⟨[(2, .arr L.length)], 3⟩ } := by
      rintro L hLl rfl
      refine fR rfl ?_
      refine Run.fin rfl (EndOk.go ?_); exact .own rfl
    have t3 : ∀ L : List Fault, L.length ≤ 4 → L ++ (if circB ds d = true then [⟨5, d.name⟩] else []) = wholeF ds i d → Run P n76 0 (EndOk ⟨[], 0⟩ { v := .t (.lst ((wholeF ds i d).map Fault.enc)) } r76 .ret) (advK 200 [It.c c76_3]) { env := [(2, .ptr 0 0), (5, .ptr 1 0), (8, .own 2 2 (L.map Fault.enc))], s := ⟨[(0, .cells [.t (.lst (ds.map Def.enc))]), (1, .cells [.t (.int .i64 d.kind), .t (.str d.name), .t (.lst (d.implements.map sE)), .t (.lst (d.dirs.map Dir.enc)), .t (.lst (d.fields.map Field.enc)), .t (.lst (d.members.map Member.enc)), .t (.lst (d.inputs.map Input.enc))]), (2, .arr L.length)], 3⟩ } := by
      rintro L hLl hL
      refine fR rfl ?_
      refine Mid.call (circular_ok H ds hD d hd (by intro o ho; rcases List.mem_cons.1 ho with rfl | ho; exact hil _ hdm; exact hil _ ho)) rfl rfl rfl rfl ?_
      refine fM rfl ?_
      refine Run.cond rfl rfl (fun hc => ?_) (fun hc => ?_)
      · refine fR rfl ?_
        refine apM Fault.enc L [(⟨5, d.name⟩ : Fault)] rfl rfl rfl rfl rfl ?_ (h1 := by simp; omega) (h2 := by simp; omega)
        refine Mid.fast (f := 1) rfl trivial ?_
        refine Mid.done0 rfl ?_
        exact rWeakC 3 rfl (t0 (L ++ [⟨5, d.name⟩]) (by simp; omega) (by rw [← hL, if_pos (show circB ds d = true from hc)] <;> simp)) rfl rfl rfl
      · exact rWeakC 3 rfl (t0 L (by omega) (by rw [← hL, if_neg (show ¬ circB ds d = true by rw [show circB ds d = false from hc]; simp)] <;> simp)) rfl rfl rfl
    have t7 : ∀ L : List Fault, L.length ≤ 3 → L ++ (if badKind d = true then [⟨9, d.name⟩] else []) ++ (if circB ds d = true then [⟨5, d.name⟩] else []) = wholeF ds i d → Run P n76 0 (EndOk ⟨[], 0⟩ { v := .t (.lst ((wholeF ds i d).map Fault.enc)) } r76 .ret) (advK 200 [It.c c76_7]) { env := [(2, .ptr 0 0), (5, .ptr 1 0), (8, .own 2 2 (L.map Fault.enc))], s := ⟨[(0, .cells [.t (.lst (ds.map Def.enc))]), (1, .cells [.t (.int .i64 d.kind), .t (.str d.name), .t (.lst (d.implements.map sE)), .t (.lst (d.dirs.map Dir.enc)), .t (.lst (d.fields.map Field.enc)), .t (.lst (d.members.map Member.enc)), .t (.lst (d.inputs.map Input.enc))]), (2, .arr L.length)], 3⟩ } := by
      rintro L hLl hL
      refine fR rfl ?_
      refine Run.cond rfl rfl (fun hb => ?_) (fun hb => ?_)
      · refine fR rfl ?_
        refine apM Fault.enc L [(⟨9, d.name⟩ : Fault)] rfl rfl rfl rfl rfl ?_ (h1 := by simp; omega) (h2 := by simp; omega)
        refine Mid.fast (f := 1) rfl trivial ?_
        refine Mid.done0 rfl ?_
        exact rWeakC 3 rfl (t3 (L ++ [⟨9, d.name⟩]) (by simp; omega) (by rw [← hL, if_pos (show badKind d = true from hb)] <;> simp)) rfl rfl rfl
      · exact rWeakC 3 rfl (t3 L (by omega) (by rw [← hL, if_neg (show ¬ badKind d = true by rw [show badKind d = false from hb]; simp)] <;> simp)) rfl rfl rfl
    refine fR rfl ?_
    refine Run.condF rfl rfl (by simp) ?_
    refine fR rfl ?_
    rw [hB'] at hnl
    refine Mid.callO [] (namesO_ok H d.name hnm false B d.name) rfl rfl rfl rfl (by simp [stoBd]) (by repeat' (first | exact trivial | exact rfl | refine And.intro ?_ ?_ | exact (congrArg some (AObj.ren_mE _ _ _ _ _ _)).symm | exact (congrArg some (AObj.ren_cE _ _ _)).symm)) rfl rfl (ob' := [(2, .arr (namesF d.name false B d.name).length)]) (rfl) rfl rfl ?_
    refine fM rfl ?_
    refine Mid.call (empty_ok H d) rfl rfl rfl rfl ?_
    refine fM rfl ?_
    have hL : namesF d.name false B d.name ++ (if emptyF d = true then [⟨8, d.name⟩] else []) ++ (if badKind d = true then [⟨9, d.name⟩] else []) ++ (if circB ds d = true then [⟨5, d.name⟩] else []) = wholeF ds i d := by unfold wholeF; rw [hB']
    generalize namesF d.name false B d.name = L at hL hnl
    refine Run.cond rfl rfl (fun he => ?_) (fun he => ?_)
    · refine fR rfl ?_
      refine apM Fault.enc L [(⟨8, d.name⟩ : Fault)] rfl rfl rfl rfl rfl ?_ (h1 := by simp; omega) (h2 := by simp; omega)
      refine Mid.fast (f := 1) rfl trivial ?_
      refine Mid.done0 rfl ?_
      exact rWeakC 3 rfl (t7 (L ++ [⟨8, d.name⟩]) (by simp; omega) (by rw [← hL, if_pos (show emptyF d = true from he)] <;> simp)) rfl rfl rfl
    · exact rWeakC 3 rfl (t7 L (by omega) (by rw [← hL, if_neg (show ¬ emptyF d = true by rw [show emptyF d = false from he]; simp)] <;> simp)) rfl rfl rfl
  · intro j o r B h1 hj hjd hB ih
    have hji : j < i := by simp at hj; omega
    have ho : ds[j]? = some o := by rw [List.getElem?_take] at h1; rw [if_pos hji] at h1; exact h1
    have hjl : j < ds.length := by omega
    refine fR rfl ?_
    refine Run.condT rfl rfl (by simp; omega) ?_
    refine fR rfl ?_
    refine elG rfl rfl rfl rfl ho rfl rfl ?_
    refine fM rfl ?_
    refine aL rfl rfl rfl rfl rfl ?_
    refine fM rfl ?_
    exact rWeak 2 rfl (ih (B || o.name == d.name) (by rw [hB]; simp only [List.any_cons]; cases B <;> simp)) rfl rfl rfl
end Go.GB.C11


/-
  D11V: contracts of chapter 11's functions: the lists of the schema's check.
-/
namespace Go.GB.C11
open Go.GB
set_option linter.unusedSimpArgs false
set_option linter.unusedVariables false
set_option maxRecDepth 100000
set_option maxHeartbeats 2000000
variable {P : Program}

def inOne (ds : List Def) (p : List Input) (x : Input) (at_ : Str) : List Fault :=
  namesF x.name false (findInput x.name p).isSome at_ ++ (if knownF ds x.ty.name = false then [⟨8, at_⟩] else if isInF ds x.ty.name = false then [⟨10, at_⟩] else [])
def inF (ds : List Def) (pre post : Str) : List Input → List Input → List Fault
  | _, [] => []
  | p, x :: r => inOne ds p x (pre ++ x.name ++ post) ++ inF ds pre post (p ++ [x]) r
theorem inputs_ok (H : Pr P) (ds : List Def) (hD : DocOk ds) (l : List Input) (hl : l.length ≤ 140737488355328) (hlo : ∀ y, y ∈ l → y.Ok) (pre post : Str) (hp : pre.length ≤ 1125899906842624) (hq : post.length ≤ 1125899906842624) (ht : (inF ds pre post [] l).length ≤ 4398046511104) :
    FnOk P 79 [docV ds, .t (.lst (l.map Input.enc)), .t (.str pre), .t (.str post)] ⟨[], 0⟩ { v := .t (.lst ((inF ds pre post [] l).map Fault.enc)) } := by
  generalize hT : inF ds pre post [] l = tot at ht
  refine FnOk.run H.i79 H.mixed rfl rfl ?_
  refine fR rfl ?_
  refine rList l (fun i (B : List Fault) => { env := [(1, .t (.lst (l.map Input.enc))), (2, .t (.str pre)), (3, .t (.str post)), (4, .ptr 0 0), (9, .own 1 2 (B.map Fault.enc)), (10, .t (.int .i64 i))], s := ⟨[(0, .cells [.t (.lst (ds.map Def.enc))]), (1, .arr B.length)], 2⟩ }) (fun r i B => B ++ inF ds pre post (l.take i) r = tot) 1 [] rfl (by simpa using hT) rfl rfl rfl ?_ ?_
  · rintro B hB
    obtain rfl : B = tot := by rw [← hB]; simp [inF]
    refine fR rfl ?_
    refine lM rfl rfl rfl ?_
    refine fM rfl ?_
    refine Run.condF rfl rfl (by simp) ?_
    refine fR rfl ?_
    refine Run.fin rfl (EndOk.go ?_); exact .own rfl
  · rintro i x r B h1 hi hd hB ih
    have hx := hlo x (List.mem_of_getElem? h1)
    have hxn := hx.nm
    have htk : l.take i ++ [x] = l.take (i + 1) := by rw [List.take_add_one, h1]; rfl
    have htkl : (l.take i).length ≤ 140737488355328 := by simp; omega
    simp only [inF, inOne, htk] at hB
    generalize hAt : pre ++ x.name ++ post = at_ at hB
    have hatl : at_.length ≤ 4503599627370496 := by rw [← hAt]; simp; omega
    have hlen := congrArg List.length hB
    simp only [List.length_append] at hlen
    refine fR rfl ?_
    refine lM rfl rfl rfl ?_
    refine fM rfl ?_
    refine Run.condT rfl rfl (by simp; omega) ?_
    refine fR rfl ?_
    refine Mid.elemMap rfl rfl rfl h1 rfl rfl ?_
    refine fM rfl ?_
    refine pu rfl ?_
    refine fM rfl ?_
    refine pu rfl ?_
    refine fM rfl ?_
    refine lTo rfl rfl rfl rfl ?_
    refine fM rfl ?_
    rw [hAt]
    refine Mid.elemMap rfl rfl rfl h1 rfl rfl ?_
    refine fM rfl ?_
    refine Mid.call (rInputOf_ok H (l.take i) htkl x.name) rfl rfl rfl rfl ?_
    refine fM rfl ?_
    refine Mid.elemMap rfl rfl rfl h1 rfl rfl ?_
    refine fM rfl ?_
    refine Mid.call (names_ok H x.name hxn false (findInput x.name (l.take i)).isSome at_) rfl rfl rfl rfl ?_
    skip
    generalize namesF x.name false (findInput x.name (l.take i)).isSome at_ = N at hB hlen
    refine apM Fault.enc B N rfl rfl rfl rfl rfl ?_ (h1 := by first | omega | (simp; omega) | (simp; done)) (h2 := by first | omega | (simp; omega) | (simp; done))
    refine fM rfl ?_
    refine Mid.elemMap rfl rfl rfl h1 rfl rfl ?_
    refine fM rfl ?_
    refine Mid.call (known_ok H ds hD x.ty.name) rfl rfl rfl rfl ?_
    refine fM rfl ?_
    refine Run.cond rfl rfl (fun hk => ?_) (fun hk => ?_)
    · have hk' : knownF ds x.ty.name = false := by simpa using hk
      rw [if_pos hk'] at hB hlen
      simp only [List.length_cons, List.length_nil] at hlen
      refine fR rfl ?_
      refine apM Fault.enc (B ++ N) [(⟨8, at_⟩ : Fault)] rfl rfl rfl rfl rfl ?_ (h1 := by first | omega | (simp; omega) | (simp; done)) (h2 := by first | omega | (simp; omega) | (simp; done))
      refine fM rfl ?_
      refine aL rfl rfl rfl rfl rfl ?_
      refine fM rfl ?_
      exact rWeak 2 rfl (ih (B ++ N ++ [⟨8, at_⟩]) (by rw [← hB]; simp)) rfl rfl rfl
    · have hk' : ¬ knownF ds x.ty.name = false := by simpa using hk
      rw [if_neg hk'] at hB hlen
      refine fR rfl ?_
      refine Mid.elemMap rfl rfl rfl h1 rfl rfl ?_
      refine fM rfl ?_
      refine Mid.call (isInput_ok H ds hD x.ty.name) rfl rfl rfl rfl ?_
      refine fM rfl ?_
      refine Run.cond rfl rfl (fun hy => ?_) (fun hy => ?_)
      · have hy' : isInF ds x.ty.name = false := by simpa using hy
        rw [if_pos hy'] at hB hlen
        simp only [List.length_cons, List.length_nil] at hlen
        refine fR rfl ?_
        refine apM Fault.enc (B ++ N) [(⟨10, at_⟩ : Fault)] rfl rfl rfl rfl rfl ?_ (h1 := by first | omega | (simp; omega) | (simp; done)) (h2 := by first | omega | (simp; omega) | (simp; done))
        refine fM rfl ?_
        refine aL rfl rfl rfl rfl rfl ?_
        refine fM rfl ?_
        exact rWeak 2 rfl (ih (B ++ N ++ [⟨10, at_⟩]) (by rw [← hB]; simp)) rfl rfl rfl
      · have hy' : ¬ isInF ds x.ty.name = false := by simpa using hy
        rw [if_neg hy'] at hB hlen
        refine fR rfl ?_
        refine aL rfl rfl rfl rfl rfl ?_
        refine fM rfl ?_
        exact rWeak 2 rfl (ih (B ++ N) (by rw [← hB]; simp)) rfl rfl rfl

def fldB (ds : List Def) (n : Str) : Bool := !scalF n && (findDef n ds).isSome && ((findDef n ds).getD Def.zero).kind == 5
def fldOne (ds : List Def) (p : List Field) (x : Field) (at_ : Str) : List Fault :=
  namesF x.name false (findField x.name p).isSome at_ ++ (if knownF ds x.ty.name = false then [⟨8, at_⟩] else if fldB ds x.ty.name = true then [⟨10, at_⟩] else []) ++ inF ds (at_ ++ [40]) [41] [] x.args
def fldL (ds : List Def) (n : Str) : List Field → List Field → List Fault
  | _, [] => []
  | p, x :: r => fldOne ds p x (n ++ [46] ++ x.name) ++ fldL ds n (p ++ [x]) r
theorem fields_ok (H : Pr P) (ds : List Def) (hD : DocOk ds) (d : Def) (hd : d.Ok) (ht : (fldL ds d.name [] d.fields).length ≤ 4398046511104) : FnOk P 77 [docV ds, d.v] ⟨[], 0⟩ { v := .t (.lst ((fldL ds d.name [] d.fields).map Fault.enc)) } := by
  have hfl := hd.fl
  have hnm := hd.nm
  generalize hT : fldL ds d.name [] d.fields = tot at ht
  refine FnOk.run H.i77 H.mixed rfl rfl ?_
  refine fR rfl ?_
  refine rList d.fields (fun i (B : List Fault) => { env := [(2, .ptr 0 0), (3, .ptr 1 0), (5, .own 2 2 (B.map Fault.enc)), (6, .t (.int .i64 i))], s := ⟨[(0, .cells [.t (.lst (ds.map Def.enc))]), (1, .cells [.t (.int .i64 d.kind), .t (.str d.name), .t (.lst (d.implements.map sE)), .t (.lst (d.dirs.map Dir.enc)), .t (.lst (d.fields.map Field.enc)), .t (.lst (d.members.map Member.enc)), .t (.lst (d.inputs.map Input.enc))]), (2, .arr B.length)], 3⟩ }) (fun r i B => B ++ fldL ds d.name (d.fields.take i) r = tot) 2 [] rfl (by simpa using hT) rfl rfl rfl ?_ ?_
  · rintro B hB
    obtain rfl : B = tot := by rw [← hB]; simp [fldL]
    refine fR rfl ?_
    refine lM rfl rfl rfl ?_
    refine fM rfl ?_
    refine Run.condF rfl rfl (by simp) ?_
    refine fR rfl ?_
    refine Run.fin rfl (EndOk.go ?_); exact .own rfl
  · rintro i x r B h1 hi hdr hB ih
    have hx := hd.f x (List.mem_of_getElem? h1)
    have hxn := hx.nm
    have hxl := hx.al
    have htk : d.fields.take i ++ [x] = d.fields.take (i + 1) := by rw [List.take_add_one, h1]; rfl
    have htkl : (d.fields.take i).length ≤ 140737488355328 := by simp; omega
    simp only [fldL, fldOne, htk] at hB
    generalize hAt : d.name ++ [46] ++ x.name = at_ at hB
    have hatl : at_.length ≤ 1125899906842000 := by rw [← hAt]; simp; omega
    have hlen := congrArg List.length hB
    simp only [List.length_append] at hlen
    refine fR rfl ?_
    refine lM rfl rfl rfl ?_
    refine fM rfl ?_
    refine Run.condT rfl rfl (by simp; omega) ?_
    refine fR rfl ?_
    refine Mid.elemMap rfl rfl rfl h1 rfl rfl ?_
    refine fM rfl ?_
    refine pu rfl ?_
    refine fM rfl ?_
    refine pu rfl ?_
    refine fM rfl ?_
    refine lTo rfl rfl rfl rfl ?_
    refine fM rfl ?_
    rw [hAt]
    refine Mid.call (rFieldOf_ok H ⟨0, [], [], [], d.fields.take i, [], []⟩ htkl x.name) rfl rfl rfl rfl ?_
    refine fM rfl ?_
    refine Mid.call (names_ok H x.name hxn false (findField x.name (d.fields.take i)).isSome at_) rfl rfl rfl rfl ?_
    skip
    generalize namesF x.name false (findField x.name (d.fields.take i)).isSome at_ = N at hB hlen
    refine apM Fault.enc B N rfl rfl rfl rfl rfl ?_ (h1 := by first | omega | (simp; omega) | (simp; done)) (h2 := by first | omega | (simp; omega) | (simp; done))
    refine fM rfl ?_
    refine Mid.call (rFind_ok H ds hD.l x.ty.name) rfl rfl rfl rfl ?_
    refine fM rfl ?_
    refine Mid.call (known_ok H ds hD x.ty.name) rfl rfl rfl rfl ?_
    refine fM rfl ?_
    refine Run.cond rfl rfl (fun hk => ?_) (fun hk => ?_)
    · have hk' : knownF ds x.ty.name = false := by simpa using hk
      rw [if_pos hk'] at hB hlen
      simp only [List.length_cons, List.length_nil] at hlen
      refine fR rfl ?_
      refine apM Fault.enc (B ++ N) [(⟨8, at_⟩ : Fault)] rfl rfl rfl rfl rfl ?_ (h1 := by first | omega | (simp; omega) | (simp; done)) (h2 := by first | omega | (simp; omega) | (simp; done))
      refine fM rfl ?_
      refine pu rfl ?_
      refine Mid.call (inputs_ok H ds hD x.args hxl hx.a (at_ ++ [40]) [41] (by simp; omega) (by decide) (by omega)) rfl rfl rfl rfl ?_
      skip
      generalize inF ds (at_ ++ [40]) [41] [] x.args = M at hB hlen
      refine apM Fault.enc (B ++ N ++ [⟨8, at_⟩]) M rfl rfl rfl rfl rfl ?_ (h1 := by first | omega | (simp; omega) | (simp; done)) (h2 := by first | omega | (simp; omega) | (simp; done))
      refine fM rfl ?_
      refine aL rfl rfl rfl rfl rfl ?_
      refine fM rfl ?_
      exact rWeak 3 rfl (ih (B ++ N ++ [⟨8, at_⟩] ++ M) (by rw [← hB]; simp)) rfl rfl rfl
    · have hk' : ¬ knownF ds x.ty.name = false := by simpa using hk
      rw [if_neg hk'] at hB hlen
      refine fR rfl ?_
      refine Mid.call (rScalar_ok H x.ty.name) rfl rfl rfl rfl ?_
      refine fM rfl ?_
      refine Run.cond rfl rfl (fun hy => ?_) (fun hy => ?_)
      · have hy' : fldB ds x.ty.name = true := hy
        rw [if_pos hy'] at hB hlen
        simp only [List.length_cons, List.length_nil] at hlen
        refine fR rfl ?_
        refine apM Fault.enc (B ++ N) [(⟨10, at_⟩ : Fault)] rfl rfl rfl rfl rfl ?_ (h1 := by first | omega | (simp; omega) | (simp; done)) (h2 := by first | omega | (simp; omega) | (simp; done))
        refine fM rfl ?_
        refine pu rfl ?_
        refine Mid.call (inputs_ok H ds hD x.args hxl hx.a (at_ ++ [40]) [41] (by simp; omega) (by decide) (by omega)) rfl rfl rfl rfl ?_
        skip
        generalize inF ds (at_ ++ [40]) [41] [] x.args = M at hB hlen
        refine apM Fault.enc (B ++ N ++ [⟨10, at_⟩]) M rfl rfl rfl rfl rfl ?_ (h1 := by first | omega | (simp; omega) | (simp; done)) (h2 := by first | omega | (simp; omega) | (simp; done))
        refine fM rfl ?_
        refine aL rfl rfl rfl rfl rfl ?_
        refine fM rfl ?_
        exact rWeak 3 rfl (ih (B ++ N ++ [⟨10, at_⟩] ++ M) (by rw [← hB]; simp)) rfl rfl rfl
      · have hy' : ¬ fldB ds x.ty.name = true := by rw [show fldB ds x.ty.name = false from hy]; simp
        rw [if_neg hy'] at hB hlen
        simp only [List.length_nil] at hlen
        refine fR rfl ?_
        refine pu rfl ?_
        refine Mid.call (inputs_ok H ds hD x.args hxl hx.a (at_ ++ [40]) [41] (by simp; omega) (by decide) (by omega)) rfl rfl rfl rfl ?_
        skip
        generalize inF ds (at_ ++ [40]) [41] [] x.args = M at hB hlen
        refine apM Fault.enc (B ++ N) M rfl rfl rfl rfl rfl ?_ (h1 := by first | omega | (simp; omega) | (simp; done)) (h2 := by first | omega | (simp; omega) | (simp; done))
        refine fM rfl ?_
        refine aL rfl rfl rfl rfl rfl ?_
        refine fM rfl ?_
        exact rWeak 3 rfl (ih (B ++ N ++ M) (by rw [← hB]; simp)) rfl rfl rfl

def memBad (n : Str) : Bool := n == [116, 114, 117, 101] || n == [102, 97, 108, 115, 101] || n == [110, 117, 108, 108]
def memL (t : Str) : List Member → List Member → List Fault
  | _, [] => []
  | p, x :: r => namesF x.name (memBad x.name) (memF p x.name) (t ++ [46] ++ x.name) ++ memL t (p ++ [x]) r
theorem members_ok (H : Pr P) (d : Def) (hd : d.Ok) (ht : (memL d.name [] d.members).length ≤ 4398046511104) : FnOk P 78 [d.v] ⟨[], 0⟩ { v := .t (.lst ((memL d.name [] d.members).map Fault.enc)) } := by
  have hfl := hd.ml
  have hnm := hd.nm
  generalize hT : memL d.name [] d.members = tot at ht
  refine FnOk.run H.i78 H.mixed rfl rfl ?_
  refine fR rfl ?_
  refine rList d.members (fun i (B : List Fault) => { env := [(1, .ptr 0 0), (3, .own 1 2 (B.map Fault.enc)), (4, .t (.int .i64 i))], s := ⟨[(0, .cells [.t (.int .i64 d.kind), .t (.str d.name), .t (.lst (d.implements.map sE)), .t (.lst (d.dirs.map Dir.enc)), .t (.lst (d.fields.map Field.enc)), .t (.lst (d.members.map Member.enc)), .t (.lst (d.inputs.map Input.enc))]), (1, .arr B.length)], 2⟩ }) (fun r i B => B ++ memL d.name (d.members.take i) r = tot) 1 [] rfl (by simpa using hT) rfl rfl rfl ?_ ?_
  · rintro B hB
    obtain rfl : B = tot := by rw [← hB]; simp [memL]
    refine fR rfl ?_
    refine lM rfl rfl rfl ?_
    refine fM rfl ?_
    refine Run.condF rfl rfl (by simp) ?_
    refine fR rfl ?_
    refine Run.fin rfl (EndOk.go ?_); exact .own rfl
  · rintro i x r B h1 hi hdr hB ih
    have hx := hd.m x (List.mem_of_getElem? h1)
    have hxn := hx.nm
    have htk : d.members.take i ++ [x] = d.members.take (i + 1) := by rw [List.take_add_one, h1]; rfl
    have htkl : (d.members.take i).length ≤ 140737488355328 := by simp; omega
    simp only [memL, htk] at hB
    generalize hAt : d.name ++ [46] ++ x.name = at_ at hB
    have hatl : at_.length ≤ 1125899906842000 := by rw [← hAt]; simp; omega
    have hlen := congrArg List.length hB
    simp only [List.length_append] at hlen
    refine fR rfl ?_
    refine lM rfl rfl rfl ?_
    refine fM rfl ?_
    refine Run.condT rfl rfl (by simp; omega) ?_
    refine fR rfl ?_
    refine Mid.elemMap rfl rfl rfl h1 rfl rfl ?_
    refine fM rfl ?_
    refine rList (d.members.take i) (fun j (C : Bool) => { env := [(1, .ptr 0 0), (3, .own 1 2 (B.map Fault.enc)), (4, .t (.int .i64 i)), (5, .t (.str x.name)), (6, .t (.bool C)), (7, .t (.int .i64 j))], s := ⟨[(0, .cells [.t (.int .i64 d.kind), .t (.str d.name), .t (.lst (d.implements.map sE)), .t (.lst (d.dirs.map Dir.enc)), .t (.lst (d.fields.map Field.enc)), .t (.lst (d.members.map Member.enc)), .t (.lst (d.inputs.map Input.enc))]), (1, .arr B.length)], 2⟩ }) (fun r j C => memF (d.members.take i) x.name = (C || memF r x.name)) 2 false rfl (by simp) rfl rfl rfl ?_ ?_
    · intro C hC
      have hl : (d.members.take i).length = i := by simp; omega
      have hC' : memF (d.members.take i) x.name = C := by rw [hC]; simp [memF]
      rw [hl]
      rw [hC'] at hB hlen
      refine fR rfl ?_
      refine Run.condF rfl rfl (by simp) ?_
      refine fR rfl ?_
      refine pu rfl ?_
      refine fM rfl ?_
      refine pu rfl ?_
      rw [hAt]
      refine Mid.call (names_ok H x.name hxn (memBad x.name) C at_) rfl rfl rfl rfl ?_
      skip
      generalize namesF x.name (memBad x.name) C at_ = N at hB hlen
      refine apM Fault.enc B N rfl rfl rfl rfl rfl ?_ (h1 := by first | omega | (simp; omega) | (simp; done)) (h2 := by first | omega | (simp; omega) | (simp; done))
      refine fM rfl ?_
      refine aL rfl rfl rfl rfl rfl ?_
      refine fM rfl ?_
      exact rWeak 2 rfl (ih (B ++ N) (by rw [← hB]; simp)) rfl rfl rfl
    · intro j o r2 C h2 hj hjd hC ih2
      have hji : j < i := by simp at hj; omega
      have ho : d.members[j]? = some o := by rw [List.getElem?_take] at h2; rw [if_pos hji] at h2; exact h2
      have hjl : j < d.members.length := by omega
      refine fR rfl ?_
      refine Run.condT rfl rfl (by simp; omega) ?_
      refine fR rfl ?_
      refine elG rfl rfl rfl rfl ho rfl rfl ?_
      refine fM rfl ?_
      refine aL rfl rfl rfl rfl rfl ?_
      refine fM rfl ?_
      exact rWeak 2 rfl (ih2 (C || o.name == x.name) (by rw [hC]; simp only [memF, List.any_cons]; cases C <;> simp)) rfl rfl rfl
end Go.GB.C11


/-
  D11W: contracts of chapter 11's functions: the schema's check.
-/
namespace Go.GB.C11
open Go.GB
set_option linter.unusedSimpArgs false
set_option linter.unusedVariables false
set_option maxRecDepth 100000
set_option maxHeartbeats 2000000
variable {P : Program}

def tQuery : Str := [81, 117, 101, 114, 121]
def chkK (ds : List Def) (d : Def) : List Fault :=
  if d.kind = 1 then fldL ds d.name [] d.fields else if d.kind = 2 then fldL ds d.name [] d.fields
  else if d.kind = 4 then memL d.name [] d.members else if d.kind = 5 then inF ds (d.name ++ [46]) [] [] d.inputs else []
def chkL (ds : List Def) : Nat → List Def → List Fault
  | _, [] => []
  | i, d :: r => wholeF ds i d ++ chkK ds d ++ chkL ds (i + 1) r
def chkQ (ds : List Def) (q : Bool) : List Fault := if (q && !(findDef tQuery ds).isSome) = true then [⟨30, tQuery⟩] else []
def checkF (ds : List Def) (q : Bool) : List Fault := chkL ds 0 ds ++ chkQ ds q
theorem check_ok (H : Pr P) (ds : List Def) (hD : DocOk ds) (hil : ∀ o, o ∈ ds → o.inputs.length ≤ 2199023255552) (q : Bool) (ht : (checkF ds q).length ≤ 4398046511104) : FnOk P 59 [docV ds, .t (.bool q)] ⟨[], 0⟩ { v := .t (.lst ((checkF ds q).map Fault.enc)) } := by
  have hdl := hD.l
  have hT : chkL ds 0 ds ++ chkQ ds q = checkF ds q := rfl
  generalize checkF ds q = tot at ht hT
  refine FnOk.run H.i59 H.mixed rfl rfl ?_
  refine fR rfl ?_
  refine rList ds (fun i (B : List Fault) => { env := [(1, .t (.bool q)), (2, .ptr 0 0), (5, .own 1 2 (B.map Fault.enc)), (6, .t (.int .i64 i))], s := ⟨[(0, .cells [.t (.lst (ds.map Def.enc))]), (1, .arr B.length)], 2⟩ }) (fun r i B => B ++ chkL ds i r ++ chkQ ds q = tot) 1 [] rfl (by simpa using hT) rfl rfl rfl ?_ ?_
  · rintro B hB
    simp only [chkL, List.append_nil] at hB
    have hlen := congrArg List.length hB
    simp only [List.length_append] at hlen
    refine fR rfl ?_
    refine lM rfl rfl rfl ?_
    refine fM rfl ?_
    refine Run.condF rfl rfl (by simp) ?_
    refine fR rfl ?_
    refine Mid.call (rFind_ok H ds hD.l tQuery) rfl rfl rfl rfl ?_
    refine fM rfl ?_
    refine Run.cond rfl rfl (fun hc => ?_) (fun hc => ?_)
    · have hc' : chkQ ds q = [⟨30, tQuery⟩] := by unfold chkQ; rw [if_pos (show (q && !(findDef tQuery ds).isSome) = true from hc)]
      rw [hc'] at hB hlen
      simp only [List.length_cons, List.length_nil] at hlen
      refine fR rfl ?_
      refine apM Fault.enc B [(⟨30, tQuery⟩ : Fault)] rfl rfl rfl rfl rfl ?_ (h1 := by first | omega | (simp; omega) | (simp; done)) (h2 := by first | omega | (simp; omega) | (simp; done))
      refine fM rfl ?_
      refine Run.fin rfl (EndOk.go ?_); exact .own (by rw [hB])
    · have hc' : chkQ ds q = [] := by unfold chkQ; rw [if_neg (by rw [show (q && !(findDef tQuery ds).isSome) = false from hc]; simp)]
      rw [hc'] at hB
      refine fR rfl ?_
      refine Run.fin rfl (EndOk.go ?_); exact .own (by rw [← hB]; simp)
  · rintro i d r B h1 hi hdr hB ih
    have hd := hD.d d (List.mem_of_getElem? h1)
    have hnm := hd.nm
    have hnl := hd.nl
    simp only [chkL] at hB
    have hlen := congrArg List.length hB
    simp only [List.length_append] at hlen
    refine fR rfl ?_
    refine lM rfl rfl rfl ?_
    refine fM rfl ?_
    refine Run.condT rfl rfl (by simp; omega) ?_
    refine fR rfl ?_
    refine Mid.elemMap rfl rfl rfl h1 rfl rfl ?_
    refine fM rfl ?_
    refine Mid.call (whole_ok H ds hD hil i d h1) rfl rfl rfl rfl ?_
    skip
    generalize wholeF ds i d = W at hB hlen
    refine apM Fault.enc B W rfl rfl rfl rfl rfl ?_ (h1 := by first | omega | (simp; omega) | (simp; done)) (h2 := by first | omega | (simp; omega) | (simp; done))
    refine fM rfl ?_
    unfold chkK at hB hlen
    refine Run.cond rfl rfl (fun k1 => ?_) (fun k1 => ?_)
    · have k1' : d.kind = 1 := by simpa using k1
      rw [if_pos k1'] at hB hlen
      skip
      refine Run.condT rfl rfl k1 ?_
      refine fR rfl ?_
      refine Mid.call (fields_ok H ds hD d hd (by omega)) rfl rfl rfl rfl ?_
      skip
      generalize fldL ds d.name [] d.fields = M at hB hlen
      refine apM Fault.enc (B ++ W) M rfl rfl rfl rfl rfl ?_ (h1 := by first | omega | (simp; omega) | (simp; done)) (h2 := by first | omega | (simp; omega) | (simp; done))
      refine fM rfl ?_
      refine aL rfl rfl rfl rfl rfl ?_
      refine fM rfl ?_
      exact rWeak 2 rfl (ih (B ++ W ++ M) (by rw [← hB]; simp)) rfl rfl rfl
    · have k1' : ¬ d.kind = 1 := by simpa using k1
      rw [if_neg k1'] at hB hlen
      refine fR rfl ?_
      refine Run.cond rfl rfl (fun k2 => ?_) (fun k2 => ?_)
      · have k2' : d.kind = 2 := by simpa using k2
        rw [if_pos k2'] at hB hlen
        refine fR rfl ?_
        refine Mid.call (fields_ok H ds hD d hd (by omega)) rfl rfl rfl rfl ?_
        skip
        generalize fldL ds d.name [] d.fields = M at hB hlen
        refine apM Fault.enc (B ++ W) M rfl rfl rfl rfl rfl ?_ (h1 := by first | omega | (simp; omega) | (simp; done)) (h2 := by first | omega | (simp; omega) | (simp; done))
        refine fM rfl ?_
        refine aL rfl rfl rfl rfl rfl ?_
        refine fM rfl ?_
        exact rWeak 2 rfl (ih (B ++ W ++ M) (by rw [← hB]; simp)) rfl rfl rfl
      · have k2' : ¬ d.kind = 2 := by simpa using k2
        rw [if_neg k2'] at hB hlen
        refine fR rfl ?_
        refine Run.cond rfl rfl (fun k4 => ?_) (fun k4 => ?_)
        · have k4' : d.kind = 4 := by simpa using k4
          rw [if_pos k4'] at hB hlen
          refine fR rfl ?_
          refine Mid.call (members_ok H d hd (by omega)) rfl rfl rfl rfl ?_
          skip
          generalize memL d.name [] d.members = M at hB hlen
          refine apM Fault.enc (B ++ W) M rfl rfl rfl rfl rfl ?_ (h1 := by first | omega | (simp; omega) | (simp; done)) (h2 := by first | omega | (simp; omega) | (simp; done))
          refine fM rfl ?_
          refine aL rfl rfl rfl rfl rfl ?_
          refine fM rfl ?_
          exact rWeak 2 rfl (ih (B ++ W ++ M) (by rw [← hB]; simp)) rfl rfl rfl
        · have k4' : ¬ d.kind = 4 := by simpa using k4
          rw [if_neg k4'] at hB hlen
          refine fR rfl ?_
          refine Run.cond rfl rfl (fun k5 => ?_) (fun k5 => ?_)
          · have k5' : d.kind = 5 := by simpa using k5
            rw [if_pos k5'] at hB hlen
            refine fR rfl ?_
            refine pu rfl ?_
            refine Mid.call (inputs_ok H ds hD d.inputs hnl hd.n (d.name ++ [46]) [] (by simp; omega) (by decide) (by omega)) rfl rfl rfl rfl ?_
            skip
            generalize inF ds (d.name ++ [46]) [] [] d.inputs = M at hB hlen
            refine apM Fault.enc (B ++ W) M rfl rfl rfl rfl rfl ?_ (h1 := by first | omega | (simp; omega) | (simp; done)) (h2 := by first | omega | (simp; omega) | (simp; done))
            refine fM rfl ?_
            refine aL rfl rfl rfl rfl rfl ?_
            refine fM rfl ?_
            exact rWeak 2 rfl (ih (B ++ W ++ M) (by rw [← hB]; simp)) rfl rfl rfl
          · have k5' : ¬ d.kind = 5 := by simpa using k5
            rw [if_neg k5'] at hB hlen
            refine fR rfl ?_
            refine aL rfl rfl rfl rfl rfl ?_
            refine fM rfl ?_
            exact rWeak 2 rfl (ih (B ++ W) (by rw [← hB]; simp)) rfl rfl rfl
end Go.GB.C11


/-
  F25K: what no violations of a document mean: its types, and the fields of each, have different names.
-/
namespace Go.GB.C11
open Go.GB
set_option linter.unusedSimpArgs false
set_option linter.unusedVariables false
set_option maxRecDepth 100000
set_option maxHeartbeats 2000000

def wFd : List Field → Nat
  | [] => 0
  | f :: r => f.args.length + f.dirs.length + wFd r
def wD (d : Def) : Nat := 1 + d.fields.length + d.members.length + d.inputs.length + d.dirs.length + d.implements.length + wFd d.fields
def wDs : List Def → Nat
  | [] => 0
  | d :: r => wD d + wDs r
theorem bulkLL_len {α : Type} (f : α → List T) (hf : ∀ x, 1 ≤ bulkL (f x)) : ∀ l : List α, l.length ≤ bulkLL (l.map f)
  | [] => by simp
  | x :: r => by
    have := hf x; have := bulkLL_len f hf r
    simp only [List.map_cons, bulkLL, List.length_cons]; omega
theorem bulk_pos (x : T) : 1 ≤ x.bulk := by cases x <;> simp [T.bulk]
theorem bulkL_cons (x : T) (r : List T) : 1 ≤ bulkL (x :: r) := by have := bulk_pos x; simp only [bulkL]; omega
theorem wF_bulk : ∀ l : List Field, l.length + wFd l ≤ bulkLL (l.map Field.enc)
  | [] => by simp [wFd]
  | f :: r => by
    have := wF_bulk r
    have h1 := bulkLL_len Input.enc (fun x => bulkL_cons _ _) f.args
    have h2 := bulkLL_len Dir.enc (fun x => bulkL_cons _ _) f.dirs
    simp only [List.map_cons, bulkLL, List.length_cons, wFd, Field.enc, bulkL, T.bulk]; omega
theorem wD_bulk (d : Def) : wD d ≤ bulkL d.enc := by
  have h1 := wF_bulk d.fields
  have h2 := bulkLL_len Member.enc (fun x => bulkL_cons _ _) d.members
  have h3 := bulkLL_len Input.enc (fun x => bulkL_cons _ _) d.inputs
  have h4 := bulkLL_len Dir.enc (fun x => bulkL_cons _ _) d.dirs
  have h5 := bulkLL_len sE (fun x => bulkL_cons _ _) d.implements
  simp only [wD, Def.enc, bulkL, T.bulk]; omega
theorem wDs_bulk : ∀ ds : List Def, wDs ds ≤ bulkLL (ds.map Def.enc)
  | [] => by simp [wDs]
  | d :: r => by have := wD_bulk d; have := wDs_bulk r; simp only [wDs, List.map_cons, bulkLL]; omega
theorem inF_lenR (ds : List Def) (a b : Str) : ∀ (l p : List Input), (inF ds a b p l).length ≤ 3 * l.length
  | [], p => by simp [inF]
  | x :: r, p => by
    have h1 := inF_lenR ds a b r (p ++ [x])
    have h2 := namesF_len x.name false (findInput x.name p).isSome (a ++ x.name ++ b)
    simp only [inF, inOne, List.length_append, List.length_cons]
    split
    · simp only [List.length_cons, List.length_nil]; omega
    · split
      · simp only [List.length_cons, List.length_nil]; omega
      · simp only [List.length_nil]; omega
theorem fldL_lenR (ds : List Def) (n : Str) : ∀ (l p : List Field), (fldL ds n p l).length ≤ 3 * (l.length + wFd l)
  | [], p => by simp [fldL]
  | x :: r, p => by
    have h1 := fldL_lenR ds n r (p ++ [x])
    have h2 := namesF_len x.name false (findField x.name p).isSome (n ++ [46] ++ x.name)
    have h3 := inF_lenR ds (n ++ [46] ++ x.name ++ [40]) [41] x.args []
    simp only [fldL, fldOne, List.length_append, List.length_cons, wFd]
    split
    · simp only [List.length_cons, List.length_nil]; omega
    · split
      · simp only [List.length_cons, List.length_nil]; omega
      · simp only [List.length_nil]; omega
theorem memL_lenR (n : Str) : ∀ (l p : List Member), (memL n p l).length ≤ 2 * l.length
  | [], p => by simp [memL]
  | x :: r, p => by
    have h1 := memL_lenR n r (p ++ [x])
    have h2 := namesF_len x.name (memBad x.name) (memF p x.name) (n ++ [46] ++ x.name)
    simp only [memL, List.length_append, List.length_cons]; omega
theorem wholeF_lenR (ds : List Def) (i : Nat) (d : Def) : (wholeF ds i d).length ≤ 5 := by
  have := namesF_len d.name false (twiceF ds i d.name) d.name
  unfold wholeF
  simp only [List.length_append]
  split <;> split <;> split <;> simp <;> omega
theorem chkL_lenR (ds : List Def) : ∀ (l : List Def) (i : Nat), (chkL ds i l).length ≤ 5 * l.length + 3 * wDs l
  | [], i => by simp [chkL]
  | d :: r, i => by
    have h1 := chkL_lenR ds r (i + 1)
    have h2 := wholeF_lenR ds i d
    have h3 : (chkK ds d).length ≤ 3 * wD d := by
      have a1 := fldL_lenR ds d.name d.fields []
      have a2 := memL_lenR d.name d.members []
      have a3 := inF_lenR ds (d.name ++ [46]) [] d.inputs []
      unfold chkK wD
      split
      · omega
      · split
        · omega
        · split
          · omega
          · split
            · omega
            · simp
    simp only [chkL, List.length_append, List.length_cons, wDs]; omega
theorem check_lenR {ds : List Def} (hb : bulkLL (ds.map Def.enc) ≤ 1048576) (q : Bool) : (checkF ds q).length ≤ 4398046511104 := by
  have h1 := chkL_lenR ds ds 0
  have h2 := wDs_bulk ds
  have h3 := bulkLL_len Def.enc (fun x => bulkL_cons _ _) ds
  unfold checkF chkQ
  rw [List.length_append]
  split <;> simp <;> omega
theorem chkL_nil {ds : List Def} : ∀ {l : List Def} {i : Nat}, chkL ds i l = [] → ∀ j d, l[j]? = some d → wholeF ds (i + j) d = []
  | [], i, _, j, d, h => by simp at h
  | x :: r, i, hc, j, d, h => by
    simp only [chkL, List.append_eq_nil_iff] at hc
    cases j with
    | zero => simp at h; subst h; exact hc.1.1
    | succ j =>
      have := chkL_nil hc.2 j d (by simpa using h)
      rwa [show i + (j + 1) = i + 1 + j by omega]
theorem whole_nil {ds : List Def} {i : Nat} {d : Def} (h : wholeF ds i d = []) : allowedF d.name = true ∧ twiceF ds i d.name = false := by
  unfold wholeF namesF at h
  simp only [List.append_eq_nil_iff] at h
  refine ⟨?_, ?_⟩
  · have := h.1.1.1.1
    split at this
    · cases this
    · rename_i hn; simpa using hn
  · have := h.1.1.1.2
    split at this
    · cases this
    · rename_i hn; simpa using hn
theorem check_find {ds : List Def} {q : Bool} (h : checkF ds q = []) {d : Def} (hd : d ∈ ds) : findDef d.name ds = some d ∧ allowedF d.name = true := by
  unfold checkF at h
  simp only [List.append_eq_nil_iff] at h
  obtain ⟨i, hi⟩ := List.mem_iff_getElem?.1 hd
  obtain ⟨h1, h2⟩ := whole_nil (chkL_nil h.1 i d hi)
  refine ⟨find_first hi ?_, h1⟩
  unfold twiceF at h2
  simp only [Bool.or_eq_false_iff] at h2
  unfold firstF
  have := h2.2
  simp only [Nat.zero_add] at this
  rw [this]; rfl
/- fields -/
theorem chkK_nil {ds : List Def} : ∀ {l : List Def} {i : Nat}, chkL ds i l = [] → ∀ d, d ∈ l → chkK ds d = []
  | [], i, _, d, h => by cases h
  | x :: r, i, hc, d, h => by
    simp only [chkL, List.append_eq_nil_iff] at hc
    rcases List.mem_cons.1 h with rfl | h
    · exact hc.1.2
    · exact chkK_nil hc.2 d h
theorem fldOne_nil {ds : List Def} {p : List Field} {x : Field} {a : Str} (h : fldOne ds p x a = []) : (findField x.name p).isSome = false := by
  unfold fldOne namesF at h
  simp only [List.append_eq_nil_iff] at h
  have := h.1.1.2
  split at this
  · cases this
  · rename_i hn; simpa using hn
theorem findField_snoc {n : Str} {x : Field} (hx : x.name = n) : ∀ {p r : List Field}, (findField n p).isSome = false → findField n (p ++ x :: r) = some x
  | [], r, _ => by simp [findField, hx]
  | y :: p, r, h => by
    simp only [List.cons_append, findField] at h ⊢
    split
    · rename_i hn; rw [if_pos hn] at h; cases h
    · rename_i hn; rw [if_neg hn] at h; exact findField_snoc hx h
theorem fldL_find {ds : List Def} {n : Str} : ∀ {l p : List Field}, fldL ds n p l = [] → ∀ x, x ∈ l → findField x.name (p ++ l) = some x
  | [], p, _, x, h => by cases h
  | y :: r, p, hc, x, h => by
    simp only [fldL, List.append_eq_nil_iff] at hc
    rcases List.mem_cons.1 h with rfl | h
    · exact findField_snoc rfl (fldOne_nil hc.1)
    · have := fldL_find hc.2 x h
      rwa [List.append_assoc, List.singleton_append] at this
theorem check_field {ds : List Def} {q : Bool} (h : checkF ds q = []) {t : Def} (ht : t ∈ ds) (hk : t.kind = 1) {x : Field} (hx : x ∈ t.fields) : findField x.name t.fields = some x := by
  unfold checkF at h
  simp only [List.append_eq_nil_iff] at h
  have := chkK_nil h.1 t ht
  unfold chkK at this
  rw [if_pos hk] at this
  have := fldL_find this x hx
  rwa [List.nil_append] at this
end Go.GB.C11


/-
  F23N: what the bulk of a document says of its directives.
-/
namespace Go.GB.C23
open Go.GB Go.GB.C11

theorem mem_bulk {α : Type} {f : α → List T} : ∀ {l : List α} {x : α}, x ∈ l → bulkL (f x) ≤ bulkLL (l.map f)
  | y :: r, x, h => by
    simp only [List.map_cons, bulkLL]
    rcases List.mem_cons.1 h with rfl | h
    · omega
    · have := mem_bulk (f := f) h; omega
theorem len_bulk {α : Type} {f : α → List T} (h : ∀ x, 1 ≤ bulkL (f x)) : ∀ l : List α, l.length ≤ bulkLL (l.map f)
  | [] => by simp
  | y :: r => by
    have := len_bulk h r
    have := h y
    simp only [List.map_cons, bulkLL, List.length_cons]; omega
theorem dir_b (d : Dir) : 1 ≤ bulkL d.enc := by simp only [Dir.enc, bulkL, T.bulk]; omega
theorem dirs_b (l : List Dir) : l.length ≤ bulkLL (l.map Dir.enc) := len_bulk dir_b l
theorem dok_of {d : Dir} (ho : d.Ok) (hb : bulkL d.enc ≤ 1048576) : DOk d := by
  refine ⟨ho.l, ho.nm, fun a ha => ?_⟩
  have h1 := mem_bulk (f := Arg.enc) ha
  simp only [Dir.enc, bulkL, T.bulk] at hb
  simp only [Arg.enc, bulkL, T.bulk] at h1
  exact ⟨by omega, ho.a a ha, by omega⟩
theorem dsok_of {l : List Dir} (ho : ∀ d, d ∈ l → d.Ok) (hb : bulkLL (l.map Dir.enc) ≤ 1048576) : DsOk l :=
  ⟨by have := dirs_b l; omega, fun d hd => dok_of (ho d hd) (by have := mem_bulk (f := Dir.enc) hd; omega)⟩
theorem inpD_of {a : Input} (ho : a.Ok) (hb : bulkL a.enc ≤ 1048576) : InpD a := by
  simp only [Input.enc, bulkL, T.bulk] at hb
  exact ⟨ho.nm, dsok_of ho.d (by omega)⟩
theorem fldD_of {a : Field} (ho : a.Ok) (hb : bulkL a.enc ≤ 1048576) : FldD a := by
  simp only [Field.enc, bulkL, T.bulk] at hb
  exact ⟨ho.nm, dsok_of ho.d (by omega), ho.al, fun x hx => inpD_of (ho.a x hx) (by have := mem_bulk (f := Input.enc) hx; omega)⟩
theorem memD_of {a : Member} (ho : a.Ok) (hb : bulkL a.enc ≤ 1048576) : MemD a := by
  simp only [Member.enc, bulkL, T.bulk] at hb
  exact ⟨ho.nm, dsok_of ho.d (by omega)⟩
theorem inp_b (d : Input) : 1 ≤ bulkL d.enc := by simp only [Input.enc, bulkL, T.bulk]; omega
theorem fld_b (d : Field) : 1 ≤ bulkL d.enc := by simp only [Field.enc, bulkL, T.bulk]; omega
theorem mem_b (d : Member) : 1 ≤ bulkL d.enc := by simp only [Member.enc, bulkL, T.bulk]; omega
theorem def_b (d : Def) : 1 ≤ bulkL d.enc := by simp only [Def.enc, bulkL, T.bulk]; omega
theorem defD_of {a : Def} (ho : a.Ok) (hb : bulkL a.enc ≤ 1048576) : DefD a := by
  simp only [Def.enc, bulkL, T.bulk] at hb
  have h1 := len_bulk fld_b a.fields
  have h2 := len_bulk mem_b a.members
  have h3 := len_bulk inp_b a.inputs
  exact ⟨by omega, dsok_of ho.d (by omega), by omega, fun x hx => fldD_of (ho.f x hx) (by have := mem_bulk (f := Field.enc) hx; omega), by omega, fun x hx => memD_of (ho.m x hx) (by have := mem_bulk (f := Member.enc) hx; omega), by omega, fun x hx => inpD_of (ho.n x hx) (by have := mem_bulk (f := Input.enc) hx; omega)⟩
theorem docD_of {ds : List Def} (ho : DocOk ds) (hb : bulkLL (ds.map Def.enc) ≤ 1048576) : ∀ t, t ∈ ds → DefD t :=
  fun t ht => defD_of (ho.d t ht) (by have := mem_bulk (f := Def.enc) ht; omega)
theorem docL_of {ds : List Def} (hb : bulkLL (ds.map Def.enc) ≤ 1048576) : ds.length ≤ 1048576 := by
  have := len_bulk def_b ds; omega
theorem argL_len (s : Str) : ∀ l : List Input, (argL s l).length ≤ bulkLL (l.map Input.enc)
  | [] => by simp [argL]
  | a :: r => by
    have h1 := argL_len s r
    have h2 := usesF_len 0 (s ++ [40] ++ a.name ++ [41]) a.dirs []
    have h3 := dirs_b a.dirs
    simp only [argL, List.length_append, List.map_cons, bulkLL, Input.enc, bulkL, T.bulk] at h1 ⊢; omega
theorem fldL_len (s : Str) (pl : Int) : ∀ l : List Field, (fldL s pl l).length ≤ bulkLL (l.map Field.enc)
  | [] => by simp [fldL]
  | a :: r => by
    have h1 := fldL_len s pl r
    have h2 := usesF_len pl (s ++ [46] ++ a.name) a.dirs []
    have h3 := dirs_b a.dirs
    have h4 := argL_len (s ++ [46] ++ a.name) a.args
    simp only [fldL, List.length_append, List.map_cons, bulkLL, Field.enc, bulkL, T.bulk] at h1 ⊢; omega
theorem memL_len (s : Str) (pl : Int) : ∀ l : List Member, (memL s pl l).length ≤ bulkLL (l.map Member.enc)
  | [] => by simp [memL]
  | a :: r => by
    have h1 := memL_len s pl r
    have h2 := usesF_len pl (s ++ [46] ++ a.name) a.dirs []
    have h3 := dirs_b a.dirs
    simp only [memL, List.length_append, List.map_cons, bulkLL, Member.enc, bulkL, T.bulk] at h1 ⊢; omega
theorem inpL_len (s : Str) : ∀ l : List Input, (inpL s l).length ≤ bulkLL (l.map Input.enc)
  | [] => by simp [inpL]
  | a :: r => by
    have h1 := inpL_len s r
    have h2 := usesF_len 0 (s ++ [46] ++ a.name) a.dirs []
    have h3 := dirs_b a.dirs
    simp only [inpL, List.length_append, List.map_cons, bulkLL, Input.enc, bulkL, T.bulk] at h1 ⊢; omega
theorem partL_len (t : Def) : (partL t).length ≤ bulkLL (t.fields.map Field.enc) + bulkLL (t.members.map Member.enc) + bulkLL (t.inputs.map Input.enc) := by
  have h1 := fldL_len t.name 4 t.fields
  have h2 := fldL_len t.name 8 t.fields
  have h3 := memL_len t.name 0 t.members
  have h4 := memL_len t.name 16 t.members
  have h5 := inpL_len t.name t.inputs
  unfold partL
  split
  · omega
  · split
    · omega
    · split
      · omega
      · split
        · omega
        · split
          · omega
          · simp
theorem chkD_len : ∀ ds : List Def, (chkD ds).length ≤ bulkLL (ds.map Def.enc)
  | [] => by simp [chkD]
  | t :: r => by
    have h1 := chkD_len r
    have h2 := partL_len t
    have h3 := usesF_len (ownP t.kind) t.name t.dirs []
    have h4 := dirs_b t.dirs
    simp only [chkD, defL, List.length_append, List.map_cons, bulkLL, Def.enc, bulkL, T.bulk] at h1 ⊢; omega
end Go.GB.C23


/-
  F25L: moves: sizes of schemas; graphs as the laws want them.
-/
namespace Go.GB.C23
open Go.GB Go.GB.C11
set_option linter.unusedSimpArgs false
set_option linter.unusedVariables false
set_option maxRecDepth 100000
set_option maxHeartbeats 4000000
variable {P : Program}

/-- lengths of the parts of a definition -/
structure SzF (x : Field) : Prop where
  a : x.args.length ≤ 1048576
  d : x.dirs.length ≤ 1048576
structure SzD (t : Def) : Prop where
  i : t.implements.length ≤ 1048576
  d : t.dirs.length ≤ 1048576
  f : t.fields.length ≤ 1048576
  m : t.members.length ≤ 1048576
  n : t.inputs.length ≤ 1048576
  x : ∀ x, x ∈ t.fields → SzF x
def szF : List Field → Nat → Nat
  | [], n => n
  | x :: r, n => if n ≤ 400 then szF r (n + x.args.length + x.dirs.length) else n
def szD : List Def → Nat → Nat
  | [], n => n
  | t :: r, n => if n ≤ 400 then szD r (szF t.fields (n + t.implements.length + t.dirs.length + t.fields.length + t.members.length + t.inputs.length)) else n
theorem size_ok (H : Pr25 P) (ds : List Def) (hl : ds.length ≤ 1048576) (hs : ∀ t, t ∈ ds → SzD t) : FnOk P 58 [docV ds, .t (.int .i64 400)] ⟨[], 0⟩ { v := .t (.int .i64 ((szD ds ds.length : Nat) : Int)) } := by
  refine FnOk.run H.i58 H.mixed rfl rfl ?_
  refine fR rfl ?_
  refine lM rfl rfl rfl ?_
  refine fM rfl ?_
  refine rList ds (fun i (n : Nat) => { env := [(1, .t (.int .i64 400)), (2, .ptr 0 0), (5, .t (.int .i64 n)), (6, .t (.int .i64 i))], s := ⟨[(0, .cells [.t (.lst (ds.map Def.enc))])], 1⟩ }) (fun r i n => szD ds ds.length = szD r n ∧ n ≤ 10000000) 1 ds.length rfl ⟨rfl, by omega⟩ rfl rfl rfl ?_ ?_
  · rintro n ⟨hn, _⟩
    have hn' : szD ds ds.length = n := hn
    refine fR rfl ?_
    refine lM rfl rfl rfl ?_
    refine fM rfl ?_
    refine Run.condF rfl rfl (by simp) ?_
    refine fR rfl ?_
    refine Run.fin rfl (EndOk.go ?_); exact .t (by rw [hn'])
  · rintro i t r n h1 hi hd ⟨hn, hn2⟩ ih
    have ht := hs t (List.mem_of_getElem? h1)
    have t1 := ht.i
    have t2 := ht.d
    have t3 := ht.f
    have t4 := ht.m
    have t5 := ht.n
    refine fR rfl ?_
    refine lM rfl rfl rfl ?_
    refine fM rfl ?_
    by_cases hc : n ≤ 400
    · rw [szD, if_pos hc] at hn
      refine Run.condT rfl rfl (by simp; omega) ?_
      refine fR rfl ?_
      refine Mid.elemMap rfl rfl rfl h1 rfl rfl ?_
      refine fM rfl ?_
      refine lM rfl rfl rfl ?_
      refine aN rfl rfl rfl ?_
      refine fM rfl ?_
      refine lM rfl rfl rfl ?_
      refine aN rfl rfl rfl ?_
      refine fM rfl ?_
      refine lM rfl rfl rfl ?_
      refine aN rfl rfl rfl ?_
      refine fM rfl ?_
      refine lM rfl rfl rfl ?_
      refine aN rfl rfl rfl ?_
      refine fM rfl ?_
      refine lM rfl rfl rfl ?_
      refine aN rfl rfl rfl ?_
      refine fM rfl ?_
      refine rList t.fields (fun j (m : Nat) => { env := [(1, .t (.int .i64 400)), (2, .ptr 0 0), (5, .t (.int .i64 m)), (6, .t (.int .i64 i)), (7, .ptr 1 0), (8, .t (.int .i64 j))], s := ⟨[(0, .cells [.t (.lst (ds.map Def.enc))]), (1, (.cells [.t (.int .i64 t.kind), .t (.str t.name), .t (.lst (t.implements.map sE)), .t (.lst (t.dirs.map Dir.enc)), .t (.lst (t.fields.map Field.enc)), .t (.lst (t.members.map Member.enc)), .t (.lst (t.inputs.map Input.enc))]))], 2⟩ }) (fun r2 j m => szD ds ds.length = szD r (szF r2 m) ∧ m ≤ 10000000) 2 (n + t.implements.length + t.dirs.length + t.fields.length + t.members.length + t.inputs.length) rfl ⟨hn, by omega⟩ rfl rfl rfl ?_ ?_
      · rintro m ⟨hm, hm2⟩
        refine fR rfl ?_
        refine lM rfl rfl rfl ?_
        refine fM rfl ?_
        refine Run.condF rfl rfl (by simp) ?_
        refine fR rfl ?_
        refine aL rfl rfl rfl rfl rfl ?_
        refine fM rfl ?_
        exact rWeak 1 rfl (ih m ⟨hm, hm2⟩) rfl rfl rfl
      · rintro j x r2 m h2 hj hjd ⟨hm, hm2⟩ ih2
        have hx := ht.x x (List.mem_of_getElem? h2)
        have x1 := hx.a
        have x2 := hx.d
        refine fR rfl ?_
        refine lM rfl rfl rfl ?_
        refine fM rfl ?_
        by_cases hc2 : m ≤ 400
        · rw [szF, if_pos hc2] at hm
          refine Run.condT rfl rfl (by simp; omega) ?_
          refine fR rfl ?_
          refine Mid.elemMap rfl rfl rfl h2 rfl rfl ?_
          refine fM rfl ?_
          refine lM rfl rfl rfl ?_
          refine aN rfl rfl rfl ?_
          refine fM rfl ?_
          refine Mid.elemMap rfl rfl rfl h2 rfl rfl ?_
          refine fM rfl ?_
          refine lM rfl rfl rfl ?_
          refine aN rfl rfl rfl ?_
          refine fM rfl ?_
          refine aL rfl rfl rfl rfl rfl ?_
          refine fM rfl ?_
          exact rWeak 2 rfl (ih2 (m + x.args.length + x.dirs.length) ⟨hm, by omega⟩) rfl rfl rfl
        · rw [szF, if_neg hc2] at hm
          refine Run.condF rfl rfl (by simp; omega) ?_
          refine fR rfl ?_
          refine aL rfl rfl rfl rfl rfl ?_
          refine fM rfl ?_
          exact rWeak 1 rfl (ih m ⟨hm, hm2⟩) rfl rfl rfl
    · rw [szD, if_neg hc] at hn
      refine Run.condF rfl rfl (by simp; omega) ?_
      refine fR rfl ?_
      refine Run.fin rfl (EndOk.go ?_); exact .t (by rw [hn])
def bigG (g : Graph) : Bool := decide (((szD g.doc g.doc.length : Nat) : Int) > 400)
def largeG (gs : List Graph) : Bool := decide ((gs.length : Int) > 8) || gs.any bigG
/-- graphs of bounded bulk -/
structure GBu (g : Graph) : Prop where
  ok : DocOk g.doc
  n : g.name.length ≤ 140737488355328
  b : bulkLL (g.doc.map Def.enc) ≤ 1048576
theorem szF_of {x : Field} (hb : bulkL x.enc ≤ 1048576) : SzF x := by
  have h1 := len_bulk inp_b x.args
  have h2 := dirs_b x.dirs
  simp only [Field.enc, bulkL, T.bulk] at hb
  exact ⟨by omega, by omega⟩
theorem szD_of {t : Def} (hb : bulkL t.enc ≤ 1048576) : SzD t := by
  have h1 := len_bulk fld_b t.fields
  have h2 := dirs_b t.dirs
  have h3 := len_bulk mem_b t.members
  have h4 := len_bulk inp_b t.inputs
  have h5 := len_bulk (f := sE) (fun x => by simp only [sE, bulkL, T.bulk]; omega) t.implements
  simp only [Def.enc, bulkL, T.bulk] at hb
  exact ⟨by omega, by omega, by omega, by omega, by omega, fun x hx => szF_of (by have := mem_bulk (f := Field.enc) hx; omega)⟩
theorem GBu.sz {g : Graph} (h : GBu g) : ∀ t, t ∈ g.doc → SzD t := fun t ht => szD_of (by have := mem_bulk (f := Def.enc) ht; have := h.b; omega)
theorem GBu.l {g : Graph} (h : GBu g) : g.doc.length ≤ 1048576 := docL_of h.b
theorem dk_of {l : List Dir} (ho : ∀ d, d ∈ l → d.Ok) (hb : bulkLL (l.map Dir.enc) ≤ 1048576) : DK l := ⟨by have := dirs_b l; omega, (dsok_of ho hb).all⟩
theorem fk_of {x : Field} (ho : x.Ok) (hb : bulkL x.enc ≤ 1048576) : FK x := by
  simp only [Field.enc, bulkL, T.bulk] at hb
  have := ho.t.l
  exact ⟨dk_of ho.d (by omega), ho.al, by omega, ho.nm⟩
theorem tk_of {t : Def} (ho : t.Ok) (hb : bulkL t.enc ≤ 1048576) : TK t := by
  simp only [Def.enc, bulkL, T.bulk] at hb
  have := len_bulk fld_b t.fields
  exact ⟨dk_of ho.d (by omega), by omega, fun x hx => fk_of (ho.f x hx) (by have := mem_bulk (f := Field.enc) hx; omega), ho.nm⟩
theorem GBu.k {g : Graph} (h : GBu g) : GK g.doc := ⟨h.ok, h.l, fun t ht => tk_of (h.ok.d t ht) (by have := mem_bulk (f := Def.enc) ht; have := h.b; omega)⟩
theorem GBu.d {g : Graph} (h : GBu g) : ∀ t, t ∈ g.doc → DefD t := docD_of h.ok h.b
theorem GBu.c {g : Graph} (h : GBu g) : (chkD g.doc).length ≤ 1048576 := Nat.le_trans (chkD_len _) h.b
theorem GBu.i {g : Graph} (h : GBu g) : ∀ o, o ∈ g.doc → o.inputs.length ≤ 2199023255552 := fun o ho => by have := (h.sz o ho).n; omega

theorem large25_ok (H : Pr25 P) (gs : List Graph) (hl : gs.length ≤ 140737488355328) (hb : ∀ g, g ∈ gs → GBu g) : FnOk P 30 [.t (.lst (gs.map Graph.enc))] ⟨[], 0⟩ { v := .t (.bool (largeG gs)) } := by
  refine FnOk.run H.i30 H.mixed rfl rfl ?_
  refine fR rfl ?_
  refine lM rfl rfl rfl ?_
  refine fM rfl ?_
  refine Run.cond rfl rfl (fun h => ?_) (fun h => ?_)
  · have h' : decide ((gs.length : Int) > 8) = true := h
    refine fR rfl ?_
    refine Run.fin rfl (EndOk.go ?_); exact .t (by unfold largeG; rw [h']; rfl)
  · have h' : decide ((gs.length : Int) > 8) = false := h
    have e : largeG gs = gs.any bigG := by unfold largeG; rw [h']; rfl
    rw [e]
    refine fR rfl ?_
    refine rList gs (fun i (_ : Unit) => { env := [(0, .t (.lst (gs.map Graph.enc))), (3, .t (.int .i64 i))], s := ⟨[], 0⟩ }) (fun r i _ => gs.any bigG = r.any bigG) 0 () rfl rfl rfl rfl rfl ?_ ?_
    · intro _ hinv
      refine fR rfl ?_
      refine lM rfl rfl rfl ?_
      refine fM rfl ?_
      refine Run.condF rfl rfl (by simp) ?_
      refine fR rfl ?_
      refine Run.fin rfl (EndOk.go ?_); exact .t (by rw [hinv]; rfl)
    · intro i g r _ h1 hi hd hinv ih
      have hg := hb g (List.mem_of_getElem? h1)
      refine fR rfl ?_
      refine lM rfl rfl rfl ?_
      refine fM rfl ?_
      refine Run.condT rfl rfl (by simp; omega) ?_
      refine fR rfl ?_
      refine Mid.elemMap rfl rfl rfl h1 rfl rfl ?_
      refine fM rfl ?_
      refine Mid.call (size_ok H g.doc hg.l hg.sz) rfl rfl rfl rfl ?_
      refine fM rfl ?_
      refine Run.cond rfl rfl (fun hc => ?_) (fun hc => ?_)
      · have hc' : bigG g = true := hc
        refine fR rfl ?_
        refine Run.fin rfl (EndOk.go ?_); exact .t (by rw [hinv, List.any_cons, hc']; rfl)
      · have hc' : bigG g = false := hc
        refine fR rfl ?_
        refine aL rfl rfl rfl rfl rfl ?_
        refine fM rfl ?_
        exact rWeak 0 rfl (ih () (by rw [hinv, List.any_cons, hc']; rfl)) rfl rfl rfl
def faultyG (g : Graph) : Bool := decide (((checkF g.doc false).length : Int) > 0) || decide (((chkD g.doc).length : Int) > 0)
def rightG (gs : List Graph) : Bool := !((gs.length : Int) == 0 || decide ((gs.length : Int) > 8)) && !gs.any faultyG
theorem right25_ok (H : Pr25 P) (gs : List Graph) (hl : gs.length ≤ 140737488355328) (hb : ∀ g, g ∈ gs → GBu g) : FnOk P 31 [.t (.lst (gs.map Graph.enc))] ⟨[], 0⟩ { v := .t (.bool (rightG gs)) } := by
  refine FnOk.run H.i31 H.mixed rfl rfl ?_
  refine fR rfl ?_
  refine lM rfl rfl rfl ?_
  refine fM rfl ?_
  refine lMG rfl rfl rfl rfl ?_
  refine fM rfl ?_
  refine Run.cond rfl rfl (fun h => ?_) (fun h => ?_)
  · have h' : ((gs.length : Int) == 0 || decide ((gs.length : Int) > 8)) = true := h
    refine fR rfl ?_
    refine Run.fin rfl (EndOk.go ?_); exact .t (by unfold rightG; rw [h']; rfl)
  · have h' : ((gs.length : Int) == 0 || decide ((gs.length : Int) > 8)) = false := h
    have e : rightG gs = !gs.any faultyG := by unfold rightG; rw [h']; rfl
    rw [e]
    refine fR rfl ?_
    refine rList gs (fun i (_ : Unit) => { env := [(0, .t (.lst (gs.map Graph.enc))), (3, .t (.int .i64 i))], s := ⟨[], 0⟩ }) (fun r i _ => gs.any faultyG = r.any faultyG) 0 () rfl rfl rfl rfl rfl ?_ ?_
    · intro _ hinv
      refine fR rfl ?_
      refine lM rfl rfl rfl ?_
      refine fM rfl ?_
      refine Run.condF rfl rfl (by simp) ?_
      refine fR rfl ?_
      refine Run.fin rfl (EndOk.go ?_); exact .t (by rw [hinv]; rfl)
    · intro i g r _ h1 hi hd hinv ih
      have hgb := hb g (List.mem_of_getElem? h1)
      have hcl := check_lenR hgb.b false
      have hdl := hgb.c
      have hgl := hgb.l
      have h5 := check_ok H.toPr g.doc hgb.ok hgb.i false hcl
      have h6 := rCheck_ok H.toPr23 g.doc (by omega) hgb.d (by omega)
      refine fR rfl ?_
      refine lM rfl rfl rfl ?_
      refine fM rfl ?_
      refine Run.condT rfl rfl (by simp; omega) ?_
      refine fR rfl ?_
      refine Mid.elemMap rfl rfl rfl h1 rfl rfl ?_
      refine fM rfl ?_
      refine Mid.call (h5) rfl rfl rfl rfl ?_
      refine lM rfl rfl rfl ?_
      refine fM rfl ?_
      refine elG rfl rfl rfl rfl h1 rfl rfl ?_
      refine fM rfl ?_
      refine caG rfl rfl (fun hg => ⟨_, rfl, h6, rfl⟩) rfl rfl ?_
      refine lMG rfl rfl rfl rfl ?_
      refine fM rfl ?_
      refine Run.cond rfl rfl (fun hc => ?_) (fun hc => ?_)
      · have hc' : faultyG g = true := hc
        refine fR rfl ?_
        refine Run.fin rfl (EndOk.go ?_); exact .t (by rw [hinv, List.any_cons, hc']; rfl)
      · have hc' : faultyG g = false := hc
        refine fR rfl ?_
        refine aL rfl rfl rfl rfl rfl ?_
        refine fM rfl ?_
        exact rWeak 0 rfl (ih () (by rw [hinv, List.any_cons, hc']; rfl)) rfl rfl rfl
end Go.GB.C23


/-
  F25M: moves: the order of graphs does not matter; the law.
-/
namespace Go.GB.C23
open Go.GB Go.GB.C11
set_option linter.unusedSimpArgs false
set_option linter.unusedVariables false
set_option maxRecDepth 100000
set_option maxHeartbeats 4000000
variable {P : Program}

/- how many keys, joins and violations -/
theorem kDefs_len (i : Nat) : ∀ ds : List Def, (kDefs i ds).length ≤ bulkLL (ds.map Def.enc)
  | [] => by simp [kDefs]
  | t :: r => by
    have h1 := kDefs_len i r
    have h2 := keysD_len t.dirs
    have h3 := dirs_b t.dirs
    simp only [kDefs, kDef, List.length_append, List.map_cons, bulkLL, Def.enc, bulkL, T.bulk] at h1 ⊢
    split
    · simp only [List.length_map]; omega
    · simp only [List.length_nil]; omega
theorem jDefs_len (i : Nat) : ∀ ds : List Def, (jDefs i ds).length ≤ bulkLL (ds.map Def.enc)
  | [] => by simp [jDefs]
  | t :: r => by
    have h1 := jDefs_len i r
    have h3 := len_bulk fld_b t.fields
    simp only [jDefs, jDef, List.length_append, List.map_cons, bulkLL, Def.enc, bulkL, T.bulk] at h1 ⊢
    split
    · simp only [List.length_map]; omega
    · simp only [List.length_nil]; omega
theorem fL_len (gs : List Graph) (i : Nat) (g : Graph) (t : Def) : ∀ l : List Field, (fL gs i g t l).length ≤ 4 * l.length
  | [] => by simp [fL]
  | x :: r => by
    have h1 := fL_len gs i g t r
    have h2 := fieldF_len gs i g t x
    simp only [fL, List.length_append, List.length_cons]; omega
theorem bDefs_len (gs : List Graph) (i : Nat) (g : Graph) : ∀ ds : List Def, (bDefs gs i g ds).length ≤ 4 * bulkLL (ds.map Def.enc)
  | [] => by simp [bDefs]
  | t :: r => by
    have h1 := bDefs_len gs i g r
    have h2 := keyL_len g t (keysD t.dirs) 0
    have h3 := keysD_len t.dirs
    have h4 := dirs_b t.dirs
    have h5 := fL_len gs i g t t.fields
    have h6 := len_bulk fld_b t.fields
    simp only [bDefs, bDef, List.length_append, List.map_cons, bulkLL, Def.enc, bulkL, T.bulk] at h1 ⊢
    split
    · simp only [List.length_append]; omega
    · simp only [List.length_nil]; omega
theorem graph_b (g : Graph) : bulkLL (g.doc.map Def.enc) + 1 ≤ bulkL g.enc := by simp only [Graph.enc, bulkL, T.bulk]; omega
theorem kAll_len : ∀ (gs : List Graph) (i : Nat), (kAll i gs).length ≤ bulkLL (gs.map Graph.enc)
  | [], i => by simp [kAll]
  | g :: r, i => by
    have h1 := kAll_len r (i + 1)
    have h2 := kDefs_len i g.doc
    have h3 := graph_b g
    simp only [kAll, List.length_append, List.map_cons, bulkLL]; omega
theorem jAll_len : ∀ (gs : List Graph) (i : Nat), (jAll i gs).length ≤ bulkLL (gs.map Graph.enc)
  | [], i => by simp [jAll]
  | g :: r, i => by
    have h1 := jAll_len r (i + 1)
    have h2 := jDefs_len i g.doc
    have h3 := graph_b g
    simp only [jAll, List.length_append, List.map_cons, bulkLL]; omega
theorem bAll_len (G : List Graph) : ∀ (gs : List Graph) (i : Nat), (bAll G i gs).length ≤ 4 * bulkLL (gs.map Graph.enc)
  | [], i => by simp [bAll]
  | g :: r, i => by
    have h1 := bAll_len G r (i + 1)
    have h2 := bDefs_len G i g g.doc
    have h3 := graph_b g
    simp only [bAll, List.length_append, List.map_cons, bulkLL]; omega
/-- graphs whose bulk is bounded -/
structure GsOk (gs : List Graph) : Prop where
  o : ∀ g, g ∈ gs → DocOk g.doc ∧ g.name.length ≤ 140737488355328
  b : bulkLL (gs.map Graph.enc) ≤ 1048576
theorem GsOk.l {gs : List Graph} (h : GsOk gs) : gs.length ≤ 1048576 := by
  have := len_bulk (f := Graph.enc) (fun g => by have := graph_b g; omega) gs
  have := h.b; omega
theorem GsOk.u {gs : List Graph} (h : GsOk gs) : ∀ g, g ∈ gs → GBu g := fun g hg =>
  ⟨(h.o g hg).1, (h.o g hg).2, by have h1 := mem_bulk (f := Graph.enc) hg; have h2 := graph_b g; have h3 := h.b; omega⟩
theorem GsOk.j {gs : List Graph} (h : GsOk gs) : JoinsB gs := by
  have h1 := kAll_len gs 0
  have h2 := jAll_len gs 0
  have h3 := bAll_len gs gs 0
  have h4 := h.l
  have h5 := h.b
  exact ⟨by omega, fun g hg => (h.u g hg).k, fun g hg => (h.o g hg).2, by omega, by omega, by omega⟩
/- sums along graphs -/
theorem othM_iff (a : Nat) (n f : Str) : ∀ (l : List Graph) (i : Nat), othM a n f i l = true ↔ ∃ (j : Nat) (g : Graph), l[j]? = some g ∧ i + j ≠ a ∧ resM g.doc n f = true
  | [], i => by simp [othM]
  | g :: r, i => by
    rw [othM, Bool.or_eq_true, Bool.and_eq_true, othM_iff a n f r (i + 1)]
    constructor
    · rintro (⟨h1, h2⟩ | ⟨j, x, h1, h2, h3⟩)
      · exact ⟨0, g, rfl, by simp at h1; omega, h2⟩
      · exact ⟨j + 1, x, by simpa using h1, by omega, h3⟩
    · rintro ⟨j, x, h1, h2, h3⟩
      cases j with
      | zero =>
        simp at h1; subst h1
        exact .inl ⟨by simp; omega, h3⟩
      | succ j => exact .inr ⟨j, x, by simpa using h1, by omega, h3⟩
end Go.GB.C23


/-
  F25N: moves: what no violations mean; the law.
-/
namespace Go.GB.C23
open Go.GB Go.GB.C11
set_option linter.unusedSimpArgs false
set_option linter.unusedVariables false
set_option maxRecDepth 100000
set_option maxHeartbeats 4000000
variable {P : Program}

def KeyO.v (k : KeyO) : V := .agg [.t (.str k.ty), .t (.int .i64 k.graph), .t (.lst (k.fields.map sE))]
/- how many other joins of a field there are -/
/- no violations -/
theorem jDefs_mem {i : Nat} {k : Jn} : ∀ {l : List Def}, k ∈ jDefs i l ↔ ∃ t x, t ∈ l ∧ t.kind = 1 ∧ x ∈ t.fields ∧ k = jnOf i t x
  | [] => by simp [jDefs]
  | t :: r => by
    rw [jDefs, List.mem_append, jDefs_mem]
    constructor
    · rintro (h | ⟨t', x, h1, h2⟩)
      · unfold jDef at h
        split at h
        · rename_i hk
          obtain ⟨x, h1, rfl⟩ := List.mem_map.1 h
          exact ⟨t, x, List.mem_cons_self .., hk, h1, rfl⟩
        · cases h
      · exact ⟨t', x, List.mem_cons_of_mem _ h1, h2⟩
    · rintro ⟨t', x, h1, h2, h3, rfl⟩
      rcases List.mem_cons.1 h1 with rfl | h1
      · left; unfold jDef; rw [if_pos h2]; exact List.mem_map.2 ⟨x, h3, rfl⟩
      · exact .inr ⟨t', x, h1, h2, h3, rfl⟩
theorem argD_none {n a : Str} : ∀ {l : List Dir}, hasD n l = false → argD n a l = none
  | [], _ => rfl
  | d :: r, h => by
    unfold hasD at h
    rw [List.any_cons, Bool.or_eq_false_iff] at h
    rw [argD, if_neg (by have := h.1; simp at this; exact this)]
    exact argD_none (by unfold hasD; exact h.2)
theorem setM_none {n : Str} {l : List Dir} (h : hasD n l = false) : setM l n = [] := by
  unfold setM
  rw [argD_none h]
  rfl
theorem findField_name {n : Str} : ∀ {l : List Field} {d : Field}, findField n l = some d → d.name = n
  | [], d, h => by simp [findField] at h
  | x :: r, d, h => by
    simp only [findField] at h
    split at h
    · rename_i hn; cases h; simpa using hn
    · exact findField_name h
/-- no violations of a schema's own -/
def Sane (gs : List Graph) : Prop := ∀ g, g ∈ gs → checkF g.doc false = []
theorem resM_iff {g : Graph} (hs : checkF g.doc false = []) {n f : Str} : resM g.doc n f = true ↔ ∃ t x, t ∈ g.doc ∧ t.kind = 1 ∧ x ∈ t.fields ∧ t.name = n ∧ x.name = f ∧ hasD ([101, 120, 116, 101, 114, 110, 97, 108] : Str) x.dirs = false := by
  constructor
  · intro h
    unfold resM at h
    simp only [Bool.and_eq_true] at h
    obtain ⟨⟨⟨h1, h2⟩, h3⟩, h4⟩ := h
    obtain ⟨t, ht⟩ := Option.isSome_iff_exists.1 h1
    rw [ht] at h2 h3 h4
    simp only [Option.getD_some] at h2 h3 h4
    obtain ⟨x, hx⟩ := Option.isSome_iff_exists.1 h2
    rw [hx] at h4
    simp only [Option.getD_some] at h4
    exact ⟨t, x, findDef_mem ht, by simpa using h3, findField_mem hx, findDef_name ht, findField_name hx, by simpa using h4⟩
  · rintro ⟨t, x, h1, h2, h3, rfl, rfl, h4⟩
    unfold resM
    rw [(check_find hs h1).1]
    simp only [Option.getD_some, Option.isSome_some]
    rw [check_field hs h1 h2 h3]
    simp [h2, h4]
theorem rightG_sane {gs : List Graph} (h : rightG gs = true) : Sane gs := by
  intro g hg
  unfold rightG at h
  rw [Bool.and_eq_true] at h
  have h2 : gs.any faultyG = false := by simpa using h.2
  rw [List.any_eq_false] at h2
  have := h2 g hg
  unfold faultyG at this
  simp at this
  exact List.length_eq_zero_iff.1 (by have := this.1; simp [this])

end Go.GB.C23


/-
  F25O: moves: schemas without directives.
-/
namespace Go.GB.C23
open Go.GB Go.GB.C11
set_option linter.unusedSimpArgs false
set_option linter.unusedVariables false
set_option maxRecDepth 100000
set_option maxHeartbeats 4000000
variable {P : Program}

def inpB (x : Input) : Input := { x with dirs := [] }
def fldB1 (x : Field) : Field := { x with dirs := [], args := x.args.map inpB }
def memB1 (m : Member) : Member := ⟨m.name, []⟩
def defB (t : Def) : Def := { t with dirs := [], fields := t.fields.map fldB1, members := t.members.map memB1, inputs := t.inputs.map inpB }
theorem bareInputs_ok (H : Pr25 P) (l : List Input) (hl : l.length ≤ 1048576) : FnOk P 67 [.t (.lst (l.map Input.enc))] ⟨[], 0⟩ { v := .t (.lst ((l.map inpB).map Input.enc)) } := by
  refine FnOk.run H.i67 H.mixed rfl rfl ?_
  refine fR rfl ?_
  refine rList l (fun i (B : List Input) => { env := [(0, .t (.lst (l.map Input.enc))), (3, .own 0 10 (B.map Input.enc)), (4, .t (.int .i64 i))], s := ⟨[(0, .arr B.length)], 1⟩ }) (fun r i B => B.length ≤ i ∧ B ++ r.map inpB = l.map inpB) 0 [] rfl ⟨by simp, rfl⟩ rfl rfl rfl ?_ ?_
  · rintro B ⟨_, hB⟩
    obtain rfl : B = l.map inpB := by rw [← hB]; simp
    refine fR rfl ?_
    refine lM rfl rfl rfl ?_
    refine fM rfl ?_
    refine Run.condF rfl rfl (by simp) ?_
    refine fR rfl ?_
    refine Run.fin rfl (EndOk.go ?_); exact .own rfl
  · rintro i x r B h1 hi hdr ⟨hBl, hB⟩ ih
    have hBl' : B.length ≤ i := hBl
    refine fR rfl ?_
    refine lM rfl rfl rfl ?_
    refine fM rfl ?_
    refine Run.condT rfl rfl (by simp; omega) ?_
    refine fR rfl ?_
    refine Mid.elemMap rfl rfl rfl h1 rfl rfl ?_
    refine fM rfl ?_
    refine apM Input.enc B [inpB x] rfl rfl rfl rfl rfl ?_ (h1 := by first | omega | (simp; omega) | (simp; done)) (h2 := by first | omega | (simp; omega) | (simp; done))
    refine fM rfl ?_
    refine aL rfl rfl rfl rfl rfl ?_
    refine fM rfl ?_
    exact rWeak 1 rfl (ih (B ++ [inpB x]) ⟨by simp; omega, by rw [← hB]; simp⟩) rfl rfl rfl

theorem bare36_ok (H : Pr25 P) (ds : List Def) (hl : ds.length ≤ 1048576) (hs : ∀ t, t ∈ ds → SzD t) : FnOk P 36 [docV ds] ⟨[], 0⟩ { v := docV (ds.map defB) } := by
  refine FnOk.run H.i36 H.mixed rfl rfl ?_
  refine fR rfl ?_
  refine rList ds (fun i (B : List Def) => { env := [(1, .ptr 0 0), (2, .ptr 1 0), (3, .ptr 2 0), (4, .t (.int .i64 i))], s := ⟨[(0, .cells [.t (.lst (ds.map Def.enc))]), (1, .cells [.nils]), (2, .cells [.own 3 7 (B.map Def.enc)]), (3, .arr B.length)], 4⟩ }) (fun r i B => B.length ≤ i ∧ B ++ r.map defB = ds.map defB) 3 [] rfl ⟨by simp, rfl⟩ rfl rfl rfl ?_ ?_ (he := (by repeat' (first | exact trivial | exact LeX.t | exact LeX.top | exact LeX.nilOwn (Nat.le_of_ble_eq_true rfl) (Nat.le_of_ble_eq_true rfl) | exact LeX.ownT | exact LeX.nilT | exact LeX.same rfl | exact LeX.tEq (by simp) | exact LeX.ownEq (by simp) (Nat.le_of_ble_eq_true rfl) | exact LeX.tEq (by congr 1 <;> omega) | exact Or.inr ⟨Nat.le_of_ble_eq_true rfl, Nat.le_of_ble_eq_true rfl, rfl⟩ | refine Or.inl ⟨Nat.le_of_ble_eq_true rfl, _, rfl, ?_⟩ | refine LeO.cells ?_ | exact LeO.arr rfl | exact LeO.arr (by simp) | exact LeO.mE (by first | rfl | simp) (by first | exact Or.inl rfl | exact Or.inr rfl) | exact LeO.cE (by first | rfl | simp) | exact LeXs.cE (by first | rfl | simp) | refine LeO.map (by first | rfl | simp) ?_ (by first | exact Or.inl rfl | exact Or.inr rfl) | exact LeO.iter (by first | rfl | simp) (Nat.le_of_ble_eq_true rfl) | refine LeXs.cons ?_ ?_ | exact LeXs.nil | refine And.intro ?_ ?_))) (hs := (by repeat' (first | exact trivial | exact LeX.t | exact LeX.top | exact LeX.nilOwn (Nat.le_of_ble_eq_true rfl) (Nat.le_of_ble_eq_true rfl) | exact LeX.ownT | exact LeX.nilT | exact LeX.same rfl | exact LeX.tEq (by simp) | exact LeX.ownEq (by simp) (Nat.le_of_ble_eq_true rfl) | exact LeX.tEq (by congr 1 <;> omega) | exact Or.inr ⟨Nat.le_of_ble_eq_true rfl, Nat.le_of_ble_eq_true rfl, rfl⟩ | refine Or.inl ⟨Nat.le_of_ble_eq_true rfl, _, rfl, ?_⟩ | refine LeO.cells ?_ | exact LeO.arr rfl | exact LeO.arr (by simp) | exact LeO.mE (by first | rfl | simp) (by first | exact Or.inl rfl | exact Or.inr rfl) | exact LeO.cE (by first | rfl | simp) | exact LeXs.cE (by first | rfl | simp) | refine LeO.map (by first | rfl | simp) ?_ (by first | exact Or.inl rfl | exact Or.inr rfl) | exact LeO.iter (by first | rfl | simp) (Nat.le_of_ble_eq_true rfl) | refine LeXs.cons ?_ ?_ | exact LeXs.nil | refine And.intro ?_ ?_)))
  · rintro B ⟨_, hB⟩
    obtain rfl : B = ds.map defB := by rw [← hB]; simp
    refine fR rfl ?_
    refine lM rfl rfl rfl ?_
    refine fM rfl ?_
    refine Run.condF rfl rfl (by simp) ?_
    refine fR rfl ?_
    refine Run.fin rfl (EndOk.go ?_); exact .agg (.cons (.own rfl) .nil)
  · rintro i t r B h1 hi hdr ⟨hBl, hB⟩ ih
    have hBl' : B.length ≤ i := hBl
    have ht := hs t (List.mem_of_getElem? h1)
    have hf := ht.f
    have hm := ht.m
    refine fR rfl ?_
    refine lM rfl rfl rfl ?_
    refine fM rfl ?_
    refine Run.condT rfl rfl (by simp; omega) ?_
    refine fR rfl ?_
    refine Mid.elemMap rfl rfl rfl h1 rfl rfl ?_
    refine fM rfl ?_
    refine rList t.fields (fun j (C : List Field) => { env := [(1, .ptr 0 0), (2, .ptr 1 0), (3, .ptr 2 0), (4, .t (.int .i64 i)), (5, .ptr 4 0), (6, .t (.int .i64 j))], s := ⟨[(0, .cells [.t (.lst (ds.map Def.enc))]), (1, .cells [.nils]), (2, .cells [.own 3 7 (B.map Def.enc)]), (3, .arr B.length), (4, (.cells [.t (.int .i64 t.kind), .t (.str t.name), .t (.lst (t.implements.map sE)), .nils, .own 5 5 (C.map Field.enc), .nils, .nils])), (5, .arr C.length)], 6⟩ }) (fun r2 j C => C.length ≤ j ∧ C ++ r2.map fldB1 = t.fields.map fldB1) 5 [] rfl ⟨by simp, rfl⟩ rfl rfl rfl ?_ ?_ (he := (by repeat' (first | exact trivial | exact LeX.t | exact LeX.top | exact LeX.nilOwn (Nat.le_of_ble_eq_true rfl) (Nat.le_of_ble_eq_true rfl) | exact LeX.ownT | exact LeX.nilT | exact LeX.same rfl | exact LeX.tEq (by simp) | exact LeX.ownEq (by simp) (Nat.le_of_ble_eq_true rfl) | exact LeX.tEq (by congr 1 <;> omega) | exact Or.inr ⟨Nat.le_of_ble_eq_true rfl, Nat.le_of_ble_eq_true rfl, rfl⟩ | refine Or.inl ⟨Nat.le_of_ble_eq_true rfl, _, rfl, ?_⟩ | refine LeO.cells ?_ | exact LeO.arr rfl | exact LeO.arr (by simp) | exact LeO.mE (by first | rfl | simp) (by first | exact Or.inl rfl | exact Or.inr rfl) | exact LeO.cE (by first | rfl | simp) | exact LeXs.cE (by first | rfl | simp) | refine LeO.map (by first | rfl | simp) ?_ (by first | exact Or.inl rfl | exact Or.inr rfl) | exact LeO.iter (by first | rfl | simp) (Nat.le_of_ble_eq_true rfl) | refine LeXs.cons ?_ ?_ | exact LeXs.nil | refine And.intro ?_ ?_))) (hs := (by repeat' (first | exact trivial | exact LeX.t | exact LeX.top | exact LeX.nilOwn (Nat.le_of_ble_eq_true rfl) (Nat.le_of_ble_eq_true rfl) | exact LeX.ownT | exact LeX.nilT | exact LeX.same rfl | exact LeX.tEq (by simp) | exact LeX.ownEq (by simp) (Nat.le_of_ble_eq_true rfl) | exact LeX.tEq (by congr 1 <;> omega) | exact Or.inr ⟨Nat.le_of_ble_eq_true rfl, Nat.le_of_ble_eq_true rfl, rfl⟩ | refine Or.inl ⟨Nat.le_of_ble_eq_true rfl, _, rfl, ?_⟩ | refine LeO.cells ?_ | exact LeO.arr rfl | exact LeO.arr (by simp) | exact LeO.mE (by first | rfl | simp) (by first | exact Or.inl rfl | exact Or.inr rfl) | exact LeO.cE (by first | rfl | simp) | exact LeXs.cE (by first | rfl | simp) | refine LeO.map (by first | rfl | simp) ?_ (by first | exact Or.inl rfl | exact Or.inr rfl) | exact LeO.iter (by first | rfl | simp) (Nat.le_of_ble_eq_true rfl) | refine LeXs.cons ?_ ?_ | exact LeXs.nil | refine And.intro ?_ ?_)))
    · rintro C ⟨_, hC⟩
      obtain rfl : C = t.fields.map fldB1 := by rw [← hC]; simp
      refine fR rfl ?_
      refine Mid.elemMap rfl rfl rfl h1 rfl rfl ?_
      refine fM rfl ?_
      refine lM rfl rfl rfl ?_
      refine fM rfl ?_
      refine Run.condF rfl rfl (by simp) ?_
      refine fR rfl ?_
      refine rList t.members (fun j (C : List Member) => { env := [(1, .ptr 0 0), (2, .ptr 1 0), (3, .ptr 2 0), (4, .t (.int .i64 i)), (5, .ptr 4 0), (8, .t (.int .i64 j))], s := ⟨[(0, .cells [.t (.lst (ds.map Def.enc))]), (1, .cells [.nils]), (2, .cells [.own 3 7 (B.map Def.enc)]), (3, .arr B.length), (4, (.cells [.t (.int .i64 t.kind), .t (.str t.name), .t (.lst (t.implements.map sE)), .nils, .t (.lst ((t.fields.map fldB1).map Field.enc)), .own 6 2 (C.map Member.enc), .nils])), (6, .arr C.length)], 7⟩ }) (fun r2 j C => C.length ≤ j ∧ C ++ r2.map memB1 = t.members.map memB1) 6 [] rfl ⟨by simp, rfl⟩ rfl rfl rfl ?_ ?_ (he := (by repeat' (first | exact trivial | exact LeX.t | exact LeX.top | exact LeX.nilOwn (Nat.le_of_ble_eq_true rfl) (Nat.le_of_ble_eq_true rfl) | exact LeX.ownT | exact LeX.nilT | exact LeX.same rfl | exact LeX.tEq (by simp) | exact LeX.ownEq (by simp) (Nat.le_of_ble_eq_true rfl) | exact LeX.tEq (by congr 1 <;> omega) | exact Or.inr ⟨Nat.le_of_ble_eq_true rfl, Nat.le_of_ble_eq_true rfl, rfl⟩ | refine Or.inl ⟨Nat.le_of_ble_eq_true rfl, _, rfl, ?_⟩ | refine LeO.cells ?_ | exact LeO.arr rfl | exact LeO.arr (by simp) | exact LeO.mE (by first | rfl | simp) (by first | exact Or.inl rfl | exact Or.inr rfl) | exact LeO.cE (by first | rfl | simp) | exact LeXs.cE (by first | rfl | simp) | refine LeO.map (by first | rfl | simp) ?_ (by first | exact Or.inl rfl | exact Or.inr rfl) | exact LeO.iter (by first | rfl | simp) (Nat.le_of_ble_eq_true rfl) | refine LeXs.cons ?_ ?_ | exact LeXs.nil | refine And.intro ?_ ?_))) (hs := (by repeat' (first | exact trivial | exact LeX.t | exact LeX.top | exact LeX.nilOwn (Nat.le_of_ble_eq_true rfl) (Nat.le_of_ble_eq_true rfl) | exact LeX.ownT | exact LeX.nilT | exact LeX.same rfl | exact LeX.tEq (by simp) | exact LeX.ownEq (by simp) (Nat.le_of_ble_eq_true rfl) | exact LeX.tEq (by congr 1 <;> omega) | exact Or.inr ⟨Nat.le_of_ble_eq_true rfl, Nat.le_of_ble_eq_true rfl, rfl⟩ | refine Or.inl ⟨Nat.le_of_ble_eq_true rfl, _, rfl, ?_⟩ | refine LeO.cells ?_ | exact LeO.arr rfl | exact LeO.arr (by simp) | exact LeO.mE (by first | rfl | simp) (by first | exact Or.inl rfl | exact Or.inr rfl) | exact LeO.cE (by first | rfl | simp) | exact LeXs.cE (by first | rfl | simp) | refine LeO.map (by first | rfl | simp) ?_ (by first | exact Or.inl rfl | exact Or.inr rfl) | exact LeO.iter (by first | rfl | simp) (Nat.le_of_ble_eq_true rfl) | refine LeXs.cons ?_ ?_ | exact LeXs.nil | refine And.intro ?_ ?_)))
      · rintro C ⟨_, hC⟩
        obtain rfl : C = t.members.map memB1 := by rw [← hC]; simp
        refine fR rfl ?_
        refine Mid.elemMap rfl rfl rfl h1 rfl rfl ?_
        refine fM rfl ?_
        refine lM rfl rfl rfl ?_
        refine fM rfl ?_
        refine Run.condF rfl rfl (by simp) ?_
        refine rWeakC 5 rfl (st' := { env := [(1, .ptr 0 0), (2, .ptr 1 0), (3, .ptr 2 0), (4, .t (.int .i64 i)), (5, .ptr 4 0)], s := ⟨[(0, .cells [.t (.lst (ds.map Def.enc))]), (1, .cells [.nils]), (2, .cells [.own 3 7 (B.map Def.enc)]), (3, .arr B.length), (4, (.cells [.t (.int .i64 t.kind), .t (.str t.name), .t (.lst (t.implements.map sE)), .nils, .t (.lst ((t.fields.map fldB1).map Field.enc)), .t (.lst ((t.members.map memB1).map Member.enc)), .nils]))], 5⟩ }) ?_ rfl rfl rfl
        refine fR rfl ?_
        refine Mid.elemMap rfl rfl rfl h1 rfl rfl ?_
        refine fM rfl ?_
        refine Mid.call (bareInputs_ok H t.inputs ht.n) rfl rfl rfl rfl ?_
        refine fM rfl ?_
        refine apM Def.enc B [defB t] rfl rfl rfl rfl rfl ?_ (h1 := by first | omega | (simp; omega) | (simp; done)) (h2 := by first | omega | (simp; omega) | (simp; done))
        refine fM rfl ?_
        refine aL rfl rfl rfl rfl rfl ?_
        refine fM rfl ?_
        exact rWeak 4 rfl (ih (B ++ [defB t]) ⟨by simp; omega, by rw [← hB]; simp⟩) rfl rfl rfl
      · rintro j x r2 C h2 hj hjd ⟨hCl, hC⟩ ih2
        have hCl' : C.length ≤ j := hCl
        refine fR rfl ?_
        refine Mid.elemMap rfl rfl rfl h1 rfl rfl ?_
        refine fM rfl ?_
        refine lM rfl rfl rfl ?_
        refine fM rfl ?_
        refine Run.condT rfl rfl (by simp; omega) ?_
        refine fR rfl ?_
        refine Mid.elemMap rfl rfl rfl h1 rfl rfl ?_
        refine fM rfl ?_
        refine Mid.elemMap rfl rfl rfl h2 rfl rfl ?_
        refine fM rfl ?_
        refine apM Member.enc C [memB1 x] rfl rfl rfl rfl rfl ?_ (h1 := by first | omega | (simp; omega) | (simp; done)) (h2 := by first | omega | (simp; omega) | (simp; done))
        refine fM rfl ?_
        refine aL rfl rfl rfl rfl rfl ?_
        refine fM rfl ?_
        exact rWeak 7 rfl (ih2 (C ++ [memB1 x]) ⟨by simp; omega, by rw [← hC]; simp⟩) rfl rfl rfl
    · rintro j x r2 C h2 hj hjd ⟨hCl, hC⟩ ih2
      have hCl' : C.length ≤ j := hCl
      have hx := ht.x x (List.mem_of_getElem? h2)
      refine fR rfl ?_
      refine Mid.elemMap rfl rfl rfl h1 rfl rfl ?_
      refine fM rfl ?_
      refine lM rfl rfl rfl ?_
      refine fM rfl ?_
      refine Run.condT rfl rfl (by simp; omega) ?_
      refine fR rfl ?_
      refine Mid.elemMap rfl rfl rfl h1 rfl rfl ?_
      refine fM rfl ?_
      refine Mid.elemMap rfl rfl rfl h2 rfl rfl ?_
      refine fM rfl ?_
      refine Mid.call (bareInputs_ok H x.args hx.a) rfl rfl rfl rfl ?_
      refine fM rfl ?_
      refine apM Field.enc C [fldB1 x] rfl rfl rfl rfl rfl ?_ (h1 := by first | omega | (simp; omega) | (simp; done)) (h2 := by first | omega | (simp; omega) | (simp; done))
      refine fM rfl ?_
      refine aL rfl rfl rfl rfl rfl ?_
      refine fM rfl ?_
      exact rWeak 6 rfl (ih2 (C ++ [fldB1 x]) ⟨by simp; omega, by rw [← hC]; simp⟩) rfl rfl rfl

/- places of fields -/
def fldN (nm : Str) (t : Def) : List Str := if t.kind = 1 then t.fields.map (fun x => nm ++ [58] ++ t.name ++ [46] ++ x.name) else []
def fldsOf (nm : Str) : List Def → List Str
  | [] => []
  | t :: r => fldN nm t ++ fldsOf nm r
theorem fldsOf_len (nm : Str) : ∀ ds : List Def, (fldsOf nm ds).length ≤ bulkLL (ds.map Def.enc)
  | [] => by simp [fldsOf]
  | t :: r => by
    have h1 := fldsOf_len nm r
    have h3 := len_bulk fld_b t.fields
    simp only [fldsOf, fldN, List.length_append, List.map_cons, bulkLL, Def.enc, bulkL, T.bulk] at h1 ⊢
    split
    · simp only [List.length_map]; omega
    · simp only [List.length_nil]; omega
theorem fieldsOfO_ok (H : Pr25 P) (nm : Str) (hnm : nm.length ≤ 1000) (ds : List Def) (hg : GK ds) (hlen : (fldsOf nm ds).length ≤ 4194304) : FnOk P 37 [.t (.str nm), docV ds] ⟨[], 0⟩ { v := .own 1 1 ((fldsOf nm ds).map sE), ob := [(1, .arr (fldsOf nm ds).length)], n := 2 } := by
  have hl := hg.l
  have hR : ∀ R, fldsOf nm ds = R → R.length ≤ 4194304 → FnOk P 37 [.t (.str nm), docV ds] ⟨[], 0⟩ { v := .own 1 1 (R.map sE), ob := [(1, .arr R.length)], n := 2 } := by
    intro R hR hlen
    refine FnOk.run H.i37 H.mixed rfl rfl ?_
    refine fR rfl ?_
    refine rList ds (fun i (B : List Str) => { env := [(0, .t (.str nm)), (3, .ptr 0 0), (5, .own 1 1 (B.map sE)), (6, .t (.int .i64 i))], s := ⟨[(0, .cells [.t (.lst (ds.map Def.enc))]), (1, .arr B.length)], 2⟩ }) (fun r i B => B ++ fldsOf nm r = R) 1 [] rfl hR rfl rfl rfl ?_ ?_ (he := (by repeat' (first | exact trivial | exact LeX.t | exact LeX.top | exact LeX.nilOwn (Nat.le_of_ble_eq_true rfl) (Nat.le_of_ble_eq_true rfl) | exact LeX.ownT | exact LeX.nilT | exact LeX.same rfl | exact LeX.tEq (by simp) | exact LeX.ownEq (by simp) (Nat.le_of_ble_eq_true rfl) | exact LeX.tEq (by congr 1 <;> omega) | exact Or.inr ⟨Nat.le_of_ble_eq_true rfl, Nat.le_of_ble_eq_true rfl, rfl⟩ | refine Or.inl ⟨Nat.le_of_ble_eq_true rfl, _, rfl, ?_⟩ | refine LeO.cells ?_ | exact LeO.arr rfl | exact LeO.arr (by simp) | exact LeO.mE (by first | rfl | simp) (by first | exact Or.inl rfl | exact Or.inr rfl) | exact LeO.cE (by first | rfl | simp) | exact LeXs.cE (by first | rfl | simp) | refine LeO.map (by first | rfl | simp) ?_ (by first | exact Or.inl rfl | exact Or.inr rfl) | exact LeO.iter (by first | rfl | simp) (Nat.le_of_ble_eq_true rfl) | refine LeXs.cons ?_ ?_ | exact LeXs.nil | refine And.intro ?_ ?_))) (hs := (by repeat' (first | exact trivial | exact LeX.t | exact LeX.top | exact LeX.nilOwn (Nat.le_of_ble_eq_true rfl) (Nat.le_of_ble_eq_true rfl) | exact LeX.ownT | exact LeX.nilT | exact LeX.same rfl | exact LeX.tEq (by simp) | exact LeX.ownEq (by simp) (Nat.le_of_ble_eq_true rfl) | exact LeX.tEq (by congr 1 <;> omega) | exact Or.inr ⟨Nat.le_of_ble_eq_true rfl, Nat.le_of_ble_eq_true rfl, rfl⟩ | refine Or.inl ⟨Nat.le_of_ble_eq_true rfl, _, rfl, ?_⟩ | refine LeO.cells ?_ | exact LeO.arr rfl | exact LeO.arr (by simp) | exact LeO.mE (by first | rfl | simp) (by first | exact Or.inl rfl | exact Or.inr rfl) | exact LeO.cE (by first | rfl | simp) | exact LeXs.cE (by first | rfl | simp) | refine LeO.map (by first | rfl | simp) ?_ (by first | exact Or.inl rfl | exact Or.inr rfl) | exact LeO.iter (by first | rfl | simp) (Nat.le_of_ble_eq_true rfl) | refine LeXs.cons ?_ ?_ | exact LeXs.nil | refine And.intro ?_ ?_)))
    · rintro B hB
      obtain rfl : B = R := by rw [← hB]; simp [fldsOf]
      refine fR rfl ?_
      refine lM rfl rfl rfl ?_
      refine fM rfl ?_
      refine Run.condF rfl rfl (by simp) ?_
      refine fR rfl ?_
      refine Run.fin rfl (EndOk.chg rfl rfl ?_ ?_)
      · exact .le (.same rfl)
      · exact (by repeat' (first | exact trivial | exact LeX.t | exact LeX.top | exact LeX.nilOwn (Nat.le_of_ble_eq_true rfl) (Nat.le_of_ble_eq_true rfl) | exact LeX.ownT | exact LeX.nilT | exact LeX.same rfl | exact LeX.tEq (by simp) | exact LeX.ownEq (by simp) (Nat.le_of_ble_eq_true rfl) | exact LeX.tEq (by congr 1 <;> omega) | exact Or.inr ⟨Nat.le_of_ble_eq_true rfl, Nat.le_of_ble_eq_true rfl, rfl⟩ | refine Or.inl ⟨Nat.le_of_ble_eq_true rfl, _, rfl, ?_⟩ | refine LeO.cells ?_ | exact LeO.arr rfl | exact LeO.arr (by simp) | exact LeO.mE (by first | rfl | simp) (by first | exact Or.inl rfl | exact Or.inr rfl) | exact LeO.cE (by first | rfl | simp) | exact LeXs.cE (by first | rfl | simp) | refine LeO.map (by first | rfl | simp) ?_ (by first | exact Or.inl rfl | exact Or.inr rfl) | exact LeO.iter (by first | rfl | simp) (Nat.le_of_ble_eq_true rfl) | refine LeXs.cons ?_ ?_ | exact LeXs.nil | refine And.intro ?_ ?_))
    · rintro i t r B h1 hi hdr hB ih
      have ht := hg.t t (List.mem_of_getElem? h1)
      have hfl := ht.fl
      have htn := ht.nm
      rw [fldsOf] at hB
      have hlB := congrArg List.length hB
      simp only [List.length_append] at hlB
      refine fR rfl ?_
      refine lM rfl rfl rfl ?_
      refine fM rfl ?_
      refine Run.condT rfl rfl (by simp; omega) ?_
      refine fR rfl ?_
      by_cases hk : t.kind = 1
      · rw [fldN, if_pos hk] at hB
        refine rList t.fields (fun j (C : List Str) => { env := [(0, .t (.str nm)), (3, .ptr 0 0), (5, .own 1 1 (C.map sE)), (6, .t (.int .i64 i)), (7, .t (.int .i64 j))], s := ⟨[(0, .cells [.t (.lst (ds.map Def.enc))]), (1, .arr C.length)], 2⟩ }) (fun r2 j C => C ++ (r2.map (fun x => nm ++ [58] ++ t.name ++ [46] ++ x.name) ++ fldsOf nm r) = R) 2 B rfl hB rfl rfl rfl ?_ ?_
        · rintro C hC
          refine fR rfl ?_
          refine Mid.elemMap rfl rfl rfl h1 rfl rfl ?_
          refine fM rfl ?_
          refine lM rfl rfl rfl ?_
          refine fM rfl ?_
          refine elG rfl rfl rfl rfl h1 rfl rfl ?_
          refine fM rfl ?_
          refine Run.condF rfl rfl (by simp) ?_
          refine fR rfl ?_
          refine aL rfl rfl rfl rfl rfl ?_
          refine fM rfl ?_
          exact rWeak 2 rfl (ih C (by rw [← hC]; simp)) rfl rfl rfl
        · rintro j x r2 C h2 hj hjd hC ih2
          have hx := (ht.f x (List.mem_of_getElem? h2)).nm
          have hlC := congrArg List.length hC
          simp only [List.length_append, List.length_map, List.length_cons] at hlC
          refine fR rfl ?_
          refine Mid.elemMap rfl rfl rfl h1 rfl rfl ?_
          refine fM rfl ?_
          refine lM rfl rfl rfl ?_
          refine fM rfl ?_
          refine elG rfl rfl rfl rfl h1 rfl rfl ?_
          refine fM rfl ?_
          refine Run.condT rfl rfl (by simp [hk]; omega) ?_
          refine fR rfl ?_
          refine pu rfl ?_
          refine fM rfl ?_
          refine Mid.elemMap rfl rfl rfl h1 rfl rfl ?_
          refine fM rfl ?_
          refine pu rfl ?_
          refine pu rfl ?_
          refine fM rfl ?_
          refine Mid.elemMap rfl rfl rfl h1 rfl rfl ?_
          refine fM rfl ?_
          refine Mid.elemMap rfl rfl rfl h2 rfl rfl ?_
          refine fM rfl ?_
          refine pu rfl ?_
          refine fM rfl ?_
          refine apM sE C [nm ++ [58] ++ t.name ++ [46] ++ x.name] rfl rfl rfl rfl rfl ?_ (h1 := by first | omega | (simp; omega) | (simp; done)) (h2 := by first | omega | (simp; omega) | (simp; done))
          refine fM rfl ?_
          refine aL rfl rfl rfl rfl rfl ?_
          refine fM rfl ?_
          exact rWeak 2 rfl (ih2 (C ++ [nm ++ [58] ++ t.name ++ [46] ++ x.name]) (by rw [← hC]; simp)) rfl rfl rfl
      · rw [fldN, if_neg hk, List.nil_append] at hB
        refine rList ([] : List Field) (fun j (C : List Str) => { env := [(0, .t (.str nm)), (3, .ptr 0 0), (5, .own 1 1 (B.map sE)), (6, .t (.int .i64 i)), (7, .t (.int .i64 j))], s := ⟨[(0, .cells [.t (.lst (ds.map Def.enc))]), (1, .arr B.length)], 2⟩ }) (fun r2 j C => True) 2 B rfl trivial rfl rfl rfl ?_ ?_
        · rintro C _
          refine fR rfl ?_
          refine Mid.elemMap rfl rfl rfl h1 rfl rfl ?_
          refine fM rfl ?_
          refine lM rfl rfl rfl ?_
          refine fM rfl ?_
          refine elG rfl rfl rfl rfl h1 rfl rfl ?_
          refine fM rfl ?_
          refine Run.condF rfl rfl (by simp [hk]) ?_
          refine fR rfl ?_
          refine aL rfl rfl rfl rfl rfl ?_
          refine fM rfl ?_
          exact rWeak 2 rfl (ih B hB) rfl rfl rfl
        · rintro j x r2 C h2
          simp at h2
  exact hR _ rfl hlen
theorem fieldsOf_ok (H : Pr25 P) (nm : Str) (hnm : nm.length ≤ 1000) (ds : List Def) (hg : GK ds) (hlen : (fldsOf nm ds).length ≤ 4194304) : FnOk P 37 [.t (.str nm), docV ds] ⟨[], 0⟩ { v := .t (.lst ((fldsOf nm ds).map sE)) } := by
  have hl := hg.l
  have hR : ∀ R, fldsOf nm ds = R → R.length ≤ 4194304 → FnOk P 37 [.t (.str nm), docV ds] ⟨[], 0⟩ { v := .t (.lst (R.map sE)) } := by
    intro R hR hlen
    refine FnOk.run H.i37 H.mixed rfl rfl ?_
    refine fR rfl ?_
    refine rList ds (fun i (B : List Str) => { env := [(0, .t (.str nm)), (3, .ptr 0 0), (5, .own 1 1 (B.map sE)), (6, .t (.int .i64 i))], s := ⟨[(0, .cells [.t (.lst (ds.map Def.enc))]), (1, .arr B.length)], 2⟩ }) (fun r i B => B ++ fldsOf nm r = R) 1 [] rfl hR rfl rfl rfl ?_ ?_ (he := (by repeat' (first | exact trivial | exact LeX.t | exact LeX.top | exact LeX.nilOwn (Nat.le_of_ble_eq_true rfl) (Nat.le_of_ble_eq_true rfl) | exact LeX.ownT | exact LeX.nilT | exact LeX.same rfl | exact LeX.tEq (by simp) | exact LeX.ownEq (by simp) (Nat.le_of_ble_eq_true rfl) | exact LeX.tEq (by congr 1 <;> omega) | exact Or.inr ⟨Nat.le_of_ble_eq_true rfl, Nat.le_of_ble_eq_true rfl, rfl⟩ | refine Or.inl ⟨Nat.le_of_ble_eq_true rfl, _, rfl, ?_⟩ | refine LeO.cells ?_ | exact LeO.arr rfl | exact LeO.arr (by simp) | exact LeO.mE (by first | rfl | simp) (by first | exact Or.inl rfl | exact Or.inr rfl) | exact LeO.cE (by first | rfl | simp) | exact LeXs.cE (by first | rfl | simp) | refine LeO.map (by first | rfl | simp) ?_ (by first | exact Or.inl rfl | exact Or.inr rfl) | exact LeO.iter (by first | rfl | simp) (Nat.le_of_ble_eq_true rfl) | refine LeXs.cons ?_ ?_ | exact LeXs.nil | refine And.intro ?_ ?_))) (hs := (by repeat' (first | exact trivial | exact LeX.t | exact LeX.top | exact LeX.nilOwn (Nat.le_of_ble_eq_true rfl) (Nat.le_of_ble_eq_true rfl) | exact LeX.ownT | exact LeX.nilT | exact LeX.same rfl | exact LeX.tEq (by simp) | exact LeX.ownEq (by simp) (Nat.le_of_ble_eq_true rfl) | exact LeX.tEq (by congr 1 <;> omega) | exact Or.inr ⟨Nat.le_of_ble_eq_true rfl, Nat.le_of_ble_eq_true rfl, rfl⟩ | refine Or.inl ⟨Nat.le_of_ble_eq_true rfl, _, rfl, ?_⟩ | refine LeO.cells ?_ | exact LeO.arr rfl | exact LeO.arr (by simp) | exact LeO.mE (by first | rfl | simp) (by first | exact Or.inl rfl | exact Or.inr rfl) | exact LeO.cE (by first | rfl | simp) | exact LeXs.cE (by first | rfl | simp) | refine LeO.map (by first | rfl | simp) ?_ (by first | exact Or.inl rfl | exact Or.inr rfl) | exact LeO.iter (by first | rfl | simp) (Nat.le_of_ble_eq_true rfl) | refine LeXs.cons ?_ ?_ | exact LeXs.nil | refine And.intro ?_ ?_)))
    · rintro B hB
      obtain rfl : B = R := by rw [← hB]; simp [fldsOf]
      refine fR rfl ?_
      refine lM rfl rfl rfl ?_
      refine fM rfl ?_
      refine Run.condF rfl rfl (by simp) ?_
      refine fR rfl ?_
      refine Run.fin rfl (EndOk.go ?_); exact .own rfl
    · rintro i t r B h1 hi hdr hB ih
      have ht := hg.t t (List.mem_of_getElem? h1)
      have hfl := ht.fl
      have htn := ht.nm
      rw [fldsOf] at hB
      have hlB := congrArg List.length hB
      simp only [List.length_append] at hlB
      refine fR rfl ?_
      refine lM rfl rfl rfl ?_
      refine fM rfl ?_
      refine Run.condT rfl rfl (by simp; omega) ?_
      refine fR rfl ?_
      by_cases hk : t.kind = 1
      · rw [fldN, if_pos hk] at hB
        refine rList t.fields (fun j (C : List Str) => { env := [(0, .t (.str nm)), (3, .ptr 0 0), (5, .own 1 1 (C.map sE)), (6, .t (.int .i64 i)), (7, .t (.int .i64 j))], s := ⟨[(0, .cells [.t (.lst (ds.map Def.enc))]), (1, .arr C.length)], 2⟩ }) (fun r2 j C => C ++ (r2.map (fun x => nm ++ [58] ++ t.name ++ [46] ++ x.name) ++ fldsOf nm r) = R) 2 B rfl hB rfl rfl rfl ?_ ?_
        · rintro C hC
          refine fR rfl ?_
          refine Mid.elemMap rfl rfl rfl h1 rfl rfl ?_
          refine fM rfl ?_
          refine lM rfl rfl rfl ?_
          refine fM rfl ?_
          refine elG rfl rfl rfl rfl h1 rfl rfl ?_
          refine fM rfl ?_
          refine Run.condF rfl rfl (by simp) ?_
          refine fR rfl ?_
          refine aL rfl rfl rfl rfl rfl ?_
          refine fM rfl ?_
          exact rWeak 2 rfl (ih C (by rw [← hC]; simp)) rfl rfl rfl
        · rintro j x r2 C h2 hj hjd hC ih2
          have hx := (ht.f x (List.mem_of_getElem? h2)).nm
          have hlC := congrArg List.length hC
          simp only [List.length_append, List.length_map, List.length_cons] at hlC
          refine fR rfl ?_
          refine Mid.elemMap rfl rfl rfl h1 rfl rfl ?_
          refine fM rfl ?_
          refine lM rfl rfl rfl ?_
          refine fM rfl ?_
          refine elG rfl rfl rfl rfl h1 rfl rfl ?_
          refine fM rfl ?_
          refine Run.condT rfl rfl (by simp [hk]; omega) ?_
          refine fR rfl ?_
          refine pu rfl ?_
          refine fM rfl ?_
          refine Mid.elemMap rfl rfl rfl h1 rfl rfl ?_
          refine fM rfl ?_
          refine pu rfl ?_
          refine pu rfl ?_
          refine fM rfl ?_
          refine Mid.elemMap rfl rfl rfl h1 rfl rfl ?_
          refine fM rfl ?_
          refine Mid.elemMap rfl rfl rfl h2 rfl rfl ?_
          refine fM rfl ?_
          refine pu rfl ?_
          refine fM rfl ?_
          refine apM sE C [nm ++ [58] ++ t.name ++ [46] ++ x.name] rfl rfl rfl rfl rfl ?_ (h1 := by first | omega | (simp; omega) | (simp; done)) (h2 := by first | omega | (simp; omega) | (simp; done))
          refine fM rfl ?_
          refine aL rfl rfl rfl rfl rfl ?_
          refine fM rfl ?_
          exact rWeak 2 rfl (ih2 (C ++ [nm ++ [58] ++ t.name ++ [46] ++ x.name]) (by rw [← hC]; simp)) rfl rfl rfl
      · rw [fldN, if_neg hk, List.nil_append] at hB
        refine rList ([] : List Field) (fun j (C : List Str) => { env := [(0, .t (.str nm)), (3, .ptr 0 0), (5, .own 1 1 (B.map sE)), (6, .t (.int .i64 i)), (7, .t (.int .i64 j))], s := ⟨[(0, .cells [.t (.lst (ds.map Def.enc))]), (1, .arr B.length)], 2⟩ }) (fun r2 j C => True) 2 B rfl trivial rfl rfl rfl ?_ ?_
        · rintro C _
          refine fR rfl ?_
          refine Mid.elemMap rfl rfl rfl h1 rfl rfl ?_
          refine fM rfl ?_
          refine lM rfl rfl rfl ?_
          refine fM rfl ?_
          refine elG rfl rfl rfl rfl h1 rfl rfl ?_
          refine fM rfl ?_
          refine Run.condF rfl rfl (by simp [hk]) ?_
          refine fR rfl ?_
          refine aL rfl rfl rfl rfl rfl ?_
          refine fM rfl ?_
          exact rWeak 2 rfl (ih B hB) rfl rfl rfl
        · rintro j x r2 C h2
          simp at h2
  exact hR _ rfl hlen
end Go.GB.C23


/-
  F25P: moves: the law of schemas without directives.
-/
namespace Go.GB.C23
open Go.GB Go.GB.C11
set_option linter.unusedSimpArgs false
set_option linter.unusedVariables false
set_option maxRecDepth 100000
set_option maxHeartbeats 4000000
variable {P : Program}

/- what becomes smaller -/
theorem bulkLL_map_le {α : Type} {e : α → List T} {f : α → α} (h : ∀ x, bulkL (e (f x)) ≤ bulkL (e x)) : ∀ l : List α, bulkLL ((l.map f).map e) ≤ bulkLL (l.map e)
  | [] => by simp
  | x :: r => by
    have := bulkLL_map_le h r
    have := h x
    simp only [List.map_cons, bulkLL]; omega
theorem inpB_b (x : Input) : bulkL (inpB x).enc ≤ bulkL x.enc := by
  simp only [Input.enc, inpB, bulkL, T.bulk, List.map_nil, bulkLL]; omega
theorem fldB1_b (x : Field) : bulkL (fldB1 x).enc ≤ bulkL x.enc := by
  have := bulkLL_map_le inpB_b x.args
  simp only [Field.enc, fldB1, bulkL, T.bulk, List.map_nil, bulkLL]; omega
theorem memB1_b (x : Member) : bulkL (memB1 x).enc ≤ bulkL x.enc := by
  simp only [Member.enc, memB1, bulkL, T.bulk, List.map_nil, bulkLL]; omega
theorem defB_b (t : Def) : bulkL (defB t).enc ≤ bulkL t.enc := by
  have h1 := bulkLL_map_le fldB1_b t.fields
  have h2 := bulkLL_map_le memB1_b t.members
  have h3 := bulkLL_map_le inpB_b t.inputs
  simp only [Def.enc, defB, bulkL, T.bulk, List.map_nil, bulkLL]; omega
theorem inpB_ok {x : Input} (h : x.Ok) : (inpB x).Ok := ⟨h.t, h.v, Nat.zero_le _, fun y hy => (by cases hy), h.nm⟩
theorem fldB1_ok {x : Field} (h : x.Ok) : (fldB1 x).Ok := by
  refine ⟨by show (x.args.map inpB).length ≤ _; rw [List.length_map]; exact h.al, fun y hy => ?_, h.t, Nat.zero_le _, fun y hy => (by cases hy), h.nm⟩
  obtain ⟨z, hz, rfl⟩ := List.mem_map.1 (show y ∈ x.args.map inpB from hy)
  exact inpB_ok (h.a z hz)
theorem defB_ok {t : Def} (h : t.Ok) : (defB t).Ok := by
  refine ⟨h.il, Nat.zero_le _, fun y hy => (by cases hy), by show (t.fields.map fldB1).length ≤ _; rw [List.length_map]; exact h.fl, fun y hy => ?_, by show (t.members.map memB1).length ≤ _; rw [List.length_map]; exact h.ml, fun y hy => ?_, by show (t.inputs.map inpB).length ≤ _; rw [List.length_map]; exact h.nl, fun y hy => ?_, h.nm, h.im⟩
  · obtain ⟨z, hz, rfl⟩ := List.mem_map.1 (show y ∈ t.fields.map fldB1 from hy)
    exact fldB1_ok (h.f z hz)
  · obtain ⟨z, hz, rfl⟩ := List.mem_map.1 (show y ∈ t.members.map memB1 from hy)
    exact ⟨Nat.zero_le _, fun y hy => (by cases hy), (h.m z hz).nm⟩
  · obtain ⟨z, hz, rfl⟩ := List.mem_map.1 (show y ∈ t.inputs.map inpB from hy)
    exact inpB_ok (h.n z hz)
theorem doc_bare {ds : List Def} (ho : DocOk ds) : DocOk (ds.map defB) := by
  refine ⟨by rw [List.length_map]; exact ho.l, fun y hy => ?_, by rw [List.length_map]; exact ho.lb⟩
  obtain ⟨z, hz, rfl⟩ := List.mem_map.1 hy
  exact defB_ok (ho.d z hz)

/-- a document without directives -/
def NoD (ds : List Def) : Prop := ∀ t, t ∈ ds → t.dirs = [] ∧ ∀ x, x ∈ t.fields → x.dirs = []
theorem noD_bare (ds : List Def) : NoD (ds.map defB) := by
  intro t ht
  obtain ⟨z, hz, rfl⟩ := List.mem_map.1 ht
  refine ⟨rfl, fun x hx => ?_⟩
  obtain ⟨y, hy, rfl⟩ := List.mem_map.1 (show x ∈ z.fields.map fldB1 from hx)
  rfl
theorem NoD.tail {t : Def} {r : List Def} (h : NoD (t :: r)) : NoD r := fun x hx => h x (List.mem_cons_of_mem _ hx)
theorem kDefs_none {i : Nat} : ∀ {ds : List Def}, NoD ds → kDefs i ds = []
  | [], _ => rfl
  | t :: r, h => by
    rw [kDefs, kDefs_none h.tail, kDef, (h t (List.mem_cons_self ..)).1]
    split <;> rfl
theorem setM_nil (n : Str) : setM [] n = [] := setM_none rfl
/-- the faults of a field without directives -/
theorem fieldF_bare {gs : List Graph} {i : Nat} {g : Graph} {t : Def} {x : Field} (h1 : t.dirs = []) (h2 : x.dirs = []) : fieldF gs i g t x = if othM i t.name x.name 0 gs = true then [⟨40, placeM g t x⟩] else [] := by
  have hn : ∀ n, hasD n ([] : List Dir) = false := fun _ => rfl
  have hk : isKeyM [] x.name = false := rfl
  unfold fieldF c1M c2M c4M
  rw [h1, h2]
  simp only [hn, hk, Bool.false_and, Bool.not_false, Bool.true_and, Bool.false_or, Bool.or_false, Bool.and_true, if_neg (by simp : ¬ (false = true))]
  cases othM i t.name x.name 0 gs <;> rfl
theorem bDefs_bare {gs : List Graph} {i : Nat} {g : Graph} (b : Bool) : ∀ {ds : List Def}, NoD ds → (∀ t x, t ∈ ds → t.kind = 1 → x ∈ t.fields → othM i t.name x.name 0 gs = b) → bDefs gs i g ds = if b = true then (fldsOf g.name ds).map (fun s => (⟨40, s⟩ : Fault)) else []
  | [], _, _ => by cases b <;> rfl
  | t :: r, h, ho => by
    have hd := (h t (List.mem_cons_self ..)).1
    have hf := (h t (List.mem_cons_self ..)).2
    rw [bDefs, bDefs_bare b h.tail fun t' x ht => ho t' x (List.mem_cons_of_mem _ ht), fldsOf]
    have e : bDef gs i g t = if b = true then (fldN g.name t).map (fun s => (⟨40, s⟩ : Fault)) else [] := by
      unfold bDef fldN
      by_cases hk : t.kind = 1
      · rw [if_pos hk, if_pos hk, hd]
        have : ∀ l : List Field, (∀ x, x ∈ l → x ∈ t.fields) → fL gs i g t l = if b = true then (l.map fun x => g.name ++ [58] ++ t.name ++ [46] ++ x.name).map (fun s => (⟨40, s⟩ : Fault)) else [] := by
          intro l
          induction l with
          | nil => intro _; cases b <;> rfl
          | cons x l ih =>
            intro hl
            have hx := hl x (List.mem_cons_self ..)
            rw [fL, ih fun y hy => hl y (List.mem_cons_of_mem _ hy), fieldF_bare hd (hf x hx), ho t x (List.mem_cons_self ..) hk hx]
            cases b with
            | false => rfl
            | true => simp [placeM]
        rw [this t.fields fun _ h => h]
        rfl
      · rw [if_neg hk, if_neg hk]
        cases b <;> rfl
    rw [e]
    cases b with
    | false => rfl
    | true => simp
theorem jDefs_bare {nm : Str} : ∀ (ds : List Def), fldsOf nm ds = (jDefs 0 ds).map fun j => nm ++ [58] ++ j.ty ++ [46] ++ j.field
  | [] => rfl
  | t :: r => by
    rw [fldsOf, jDefs, List.map_append, jDefs_bare r]
    unfold fldN jDef
    split
    · simp [jnOf]
    · rfl
structure JFacts (j : Jn) : Prop where
  g : j.graph = 0
  e : j.ext = false
  r : j.req = []
  p : j.prov = []
  t : j.ty.length ≤ 140737488355328
  f : j.field.length ≤ 140737488355328
theorem jDefs_facts {ds : List Def} (h : NoD ds) (hg : GK ds) {j : Jn} (hj : j ∈ jDefs 0 ds) : JFacts j := by
  obtain ⟨t, x, h1, h2, h3, rfl⟩ := jDefs_mem.1 hj
  have hx := (h t h1).2 x h3
  have h4 := (hg.t t h1).nm
  have h5 := ((hg.t t h1).f x h3).nm
  refine ⟨rfl, ?_, ?_, ?_, h4, h5⟩
  · show hasD _ x.dirs = false
    rw [hx]; rfl
  · show setM x.dirs _ = []
    rw [hx]; exact setM_nil _
  · show setM x.dirs _ = []
    rw [hx]; exact setM_nil _
theorem oth_other {ga gb : Graph} (hs : checkF gb.doc false = []) (hd : NoD gb.doc) {t : Def} {x : Field} (h1 : t ∈ gb.doc) (h2 : t.kind = 1) (h3 : x ∈ t.fields) : othM 0 t.name x.name 0 [ga, gb] = true :=
  (othM_iff ..).2 ⟨1, gb, rfl, by omega, (resM_iff hs).2 ⟨t, x, h1, h2, h3, rfl, rfl, by rw [(hd t h1).2 x h3]; rfl⟩⟩
theorem oth_other1 {ga gb : Graph} (hs : checkF ga.doc false = []) (hd : NoD ga.doc) {t : Def} {x : Field} (h1 : t ∈ ga.doc) (h2 : t.kind = 1) (h3 : x ∈ t.fields) : othM 1 t.name x.name 0 [ga, gb] = true :=
  (othM_iff ..).2 ⟨0, ga, rfl, by omega, (resM_iff hs).2 ⟨t, x, h1, h2, h3, rfl, rfl, by rw [(hd t h1).2 x h3]; rfl⟩⟩
theorem oth_alone (ga : Graph) (n f : Str) : othM 0 n f 0 [ga] = false := by simp [othM]

theorem alone25_ok (H : Pr25 P) (ds : List Def) (ho : DocOk ds) (hb : bulkLL (ds.map Def.enc) ≤ 1048576) : FnOk P 10 [docV ds] ⟨[], 0⟩ { v := .t (.bool true) } := by
  have hdl := docL_of hb
  have hsz : ∀ t, t ∈ ds → SzD t := fun t ht => szD_of (by have := mem_bulk (f := Def.enc) ht; omega)
  have h0 := bare36_ok H ds hdl hsz
  have hb2 : bulkLL ((ds.map defB).map Def.enc) ≤ 1048576 := Nat.le_trans (bulkLL_map_le defB_b ds) hb
  have ho2 := doc_bare ho
  have hn := noD_bare ds
  generalize ds.map defB = d at h0 hb2 ho2 hn
  have hu : ∀ nm : Str, nm.length ≤ 1000 → GBu ⟨nm, d⟩ := fun nm h => ⟨ho2, by show nm.length ≤ _; omega, hb2⟩
  have ua := hu [97] (by decide)
  have ub := hu [98] (by decide)
  have hu2 : ∀ g, g ∈ [(⟨[97], d⟩ : Graph), ⟨[98], d⟩] → GBu g := by
    intro g hg
    simp at hg
    rcases hg with rfl | rfl
    · exact ua
    · exact ub
  have w1 := fldsOf_len [97] d
  have w2 := fldsOf_len [98] d
  have w3 := jDefs_len 0 d
  have w4 := jDefs_len 1 d
  have w5 := bDefs_len [(⟨[97], d⟩ : Graph)] 0 ⟨[97], d⟩ d
  have w6 := bDefs_len [(⟨[97], d⟩ : Graph), ⟨[98], d⟩] 0 ⟨[97], d⟩ d
  have w7 := bDefs_len [(⟨[97], d⟩ : Graph), ⟨[98], d⟩] 1 ⟨[98], d⟩ d
  have hj1 : JoinsB [(⟨[97], d⟩ : Graph)] := by
    refine ⟨Nat.le_of_ble_eq_true rfl, fun g hg => ?_, fun g hg => ?_, ?_, ?_, ?_⟩
    · simp at hg; subst hg; exact ua.k
    · simp at hg; subst hg; exact ua.n
    · simp only [kAll, kDefs_none hn, List.append_nil]; exact Nat.zero_le _
    · simp only [jAll, List.append_nil]; omega
    · simp only [bAll, List.append_nil]; omega
  have hj2 : JoinsB [(⟨[97], d⟩ : Graph), ⟨[98], d⟩] := by
    refine ⟨Nat.le_of_ble_eq_true rfl, fun g hg => (hu2 g hg).k, fun g hg => (hu2 g hg).n, ?_, ?_, ?_⟩
    · simp only [kAll, kDefs_none hn, List.append_nil]; exact Nat.zero_le _
    · simp only [jAll, List.append_nil, List.length_append, Nat.zero_add]; omega
    · simp only [bAll, List.append_nil, List.length_append, Nat.zero_add]; omega
  have h1 := large25_ok H [(⟨[97], d⟩ : Graph), ⟨[98], d⟩] (Nat.le_of_ble_eq_true rfl) hu2
  have h2 := right25_ok H [(⟨[97], d⟩ : Graph), ⟨[98], d⟩] (Nat.le_of_ble_eq_true rfl) hu2
  have h3 := joins_ok H [(⟨[97], d⟩ : Graph)] hj1
  have e1 : bAll [(⟨[97], d⟩ : Graph)] 0 [(⟨[97], d⟩ : Graph)] = [] := by
    simp only [bAll, List.append_nil]
    exact bDefs_bare false hn fun t x _ _ _ => oth_alone ..
  have e2 : kAll 0 [(⟨[97], d⟩ : Graph)] = [] := by simp only [kAll, kDefs_none hn, List.append_nil]
  have e3 : jAll 0 [(⟨[97], d⟩ : Graph)] = jDefs 0 d := by simp only [jAll, List.append_nil]
  rw [e1, if_pos rfl, if_pos rfl, e2, e3] at h3
  have h4 := joins_ok H [(⟨[97], d⟩ : Graph), ⟨[98], d⟩] hj2
  have h5 := fieldsOfO_ok H [97] (by decide) d ua.k (by omega)
  have h6 := fieldsOf_ok H [98] (by decide) d ua.k (by omega)
  have hF := fun j (hj : j ∈ jDefs 0 d) => jDefs_facts hn ua.k hj
  have hW := jDefs_bare (nm := [97]) d
  refine FnOk.run H.i10 H.mixed rfl rfl ?_
  refine fR rfl ?_
  refine Mid.call h0 rfl rfl rfl rfl ?_
  refine Mid.fast (f := 7) rfl trivial ?_
  refine Mid.bslP rfl rfl rfl ?_
  refine fM rfl ?_
  refine Mid.call (h1) rfl rfl rfl rfl ?_
  refine fM rfl ?_
  refine caG rfl rfl (fun hg => ⟨_, rfl, h2, rfl⟩) rfl rfl ?_
  refine fM rfl ?_
  refine Run.cond rfl rfl (fun h => ?_) (fun h => ?_)
  · refine fR rfl ?_
    refine Mid.call (ex32_ok H) rfl rfl rfl rfl ?_
    refine fM rfl ?_
    refine Run.fin rfl (EndOk.go ?_); exact .t rfl
  · have hr : rightG [(⟨[97], d⟩ : Graph), ⟨[98], d⟩] = true := by
      rw [Bool.or_eq_false_iff] at h
      simpa using h.2
    have hs := rightG_sane hr
    have sa := hs ⟨[97], d⟩ (by simp)
    have sb := hs ⟨[98], d⟩ (by simp)
    have e4 : bAll [(⟨[97], d⟩ : Graph), ⟨[98], d⟩] 0 [(⟨[97], d⟩ : Graph), ⟨[98], d⟩] = (fldsOf [97] d ++ fldsOf [98] d).map (fun s => (⟨40, s⟩ : Fault)) := by
      simp only [bAll, List.append_nil]
      rw [bDefs_bare true hn fun t x a b c => oth_other (gb := ⟨[98], d⟩) sb hn a b c, bDefs_bare true hn fun t x a b c => oth_other1 (ga := ⟨[97], d⟩) sa hn a b c]
      simp
    rw [e4] at h4
    generalize fldsOf [98] d = W2 at h4 h6 w2
    generalize hWe : fldsOf [97] d = W1 at h4 h5 w1 hW
    generalize jDefs 0 d = J at h3 hF hW w3
    have hWl : W1.length = J.length := by rw [hW, List.length_map]
    obtain ⟨K2, J2, h4⟩ : ∃ (K2 : List KeyO) (J2 : List Jn), FnOk P 33 [.t (.lst ([(⟨[97], d⟩ : Graph), ⟨[98], d⟩].map Graph.enc))] ⟨[], 0⟩ { v := .tup [.t (.lst (K2.map KeyO.enc)), .t (.lst (J2.map Jn.enc)), .t (.lst (((W1 ++ W2).map (fun s => (⟨40, s⟩ : Fault))).map Fault.enc))] } := ⟨_, _, h4⟩
    refine fR rfl ?_
    refine lTo (j := 1) (l := [(⟨[97], d⟩ : Graph), ⟨[98], d⟩]) (f := Graph.enc) rfl rfl rfl rfl ?_ (hj := by simp)
    skip
    refine Mid.call (h3) rfl rfl rfl rfl ?_
    refine fM rfl ?_
    refine Mid.callO [] (h5) rfl rfl rfl rfl (by simp [stoBd]) (by repeat' (first | exact trivial | exact rfl | refine And.intro ?_ ?_ | exact (congrArg some (AObj.ren_mE _ _ _ _ _ _)).symm | exact (congrArg some (AObj.ren_cE _ _ _)).symm)) rfl rfl (ob' := [(2, .arr W1.length)]) (rfl) rfl rfl ?_
    refine fM rfl ?_
    refine lM rfl rfl rfl ?_
    refine fM rfl ?_
    refine lMG rfl rfl rfl rfl ?_
    refine fM rfl ?_
    refine lMG rfl rfl rfl rfl ?_
    refine fM rfl ?_
    refine lMG rfl rfl rfl rfl ?_
    refine fM rfl ?_
    refine Run.condF rfl rfl (by simp [hWl]) ?_
    refine fR rfl ?_
    refine rList J (fun i (_ : Unit) => { env := [(1, .ptr 0 0), (3, .t (.lst ([(⟨[97], d⟩ : Graph), ⟨[98], d⟩].map Graph.enc))), (5, .t (.lst (J.map Jn.enc))), (7, .own 2 1 (W1.map sE)), (8, .t (.int .i64 i))], s := ⟨[(0, .cells [.t (.lst (d.map Def.enc))]), (2, .arr W1.length)], 3⟩ }) (fun r i _ => True) 3 () rfl trivial rfl rfl rfl ?_ ?_
    · rintro _ _
      refine fR rfl ?_
      refine lM rfl rfl rfl ?_
      refine fM rfl ?_
      refine Run.condF rfl rfl (by simp) ?_
      refine fR rfl ?_
      refine Mid.call (h6) rfl rfl rfl rfl ?_
      skip
      refine apM sE W1 W2 rfl rfl rfl rfl rfl ?_ (h1 := by first | omega | (simp; omega) | (simp; done)) (h2 := by first | omega | (simp; omega) | (simp; done))
      refine fM rfl ?_
      refine Mid.call (h4) rfl rfl rfl rfl ?_
      refine fM rfl ?_
      refine lM rfl rfl rfl ?_
      refine fM rfl ?_
      refine lM rfl rfl rfl ?_
      refine fM rfl ?_
      have hWW : (W1 ++ W2).length ≤ 4194304 := by rw [List.length_append]; omega
      generalize W1 ++ W2 = W at hWW
      refine Run.condF rfl rfl (by simp) ?_
      refine fR rfl ?_
      refine rList W (fun i (_ : Unit) => { env := [(6, .t (.lst ((W.map (fun s => (⟨40, s⟩ : Fault))).map Fault.enc))), (7, .own 2 1 (W.map sE)), (9, .t (.int .i64 i))], s := ⟨[(2, .arr W.length)], 3⟩ }) (fun r i _ => True) 3 () rfl trivial rfl rfl rfl ?_ ?_
      · rintro _ _
        refine fR rfl ?_
        refine lM rfl rfl rfl ?_
        refine fM rfl ?_
        refine Run.condF rfl rfl (by simp) ?_
        refine fR rfl ?_
        refine Mid.call (ex32_ok H) rfl rfl rfl rfl ?_
        refine fM rfl ?_
        refine Run.fin rfl (EndOk.go ?_); exact .t rfl
      · rintro i x r _ g1 hi hdr _ ih
        have gb : (W.map (fun s => (⟨40, s⟩ : Fault)))[i]? = some ⟨40, x⟩ := by rw [List.getElem?_map, g1]; rfl
        refine fR rfl ?_
        refine lM rfl rfl rfl ?_
        refine fM rfl ?_
        refine Run.condT rfl rfl (by simp; omega) ?_
        refine fR rfl ?_
        refine Mid.elemMap rfl rfl rfl gb rfl rfl ?_
        refine fM rfl ?_
        refine Mid.elemMap rfl rfl rfl g1 rfl rfl ?_
        refine fM rfl ?_
        refine p0 rfl ?_
        refine fM rfl ?_
        refine Run.condF rfl rfl (by simp [keyEq, T.eqb]) ?_
        refine fR rfl ?_
        refine aL rfl rfl rfl rfl rfl ?_
        refine fM rfl ?_
        exact rWeak 3 rfl (ih () trivial) rfl rfl rfl
    · rintro i x r _ g1 hi hdr _ ih
      have hx := hF x (List.mem_of_getElem? g1)
      have x1 := hx.g
      have x2 := hx.e
      have x3 := hx.r
      have x4 := hx.p
      have x5 := hx.t
      have x6 := hx.f
      have gw : W1[i]? = some ([97] ++ [58] ++ x.ty ++ [46] ++ x.field) := by rw [hW, List.getElem?_map, g1]; rfl
      have l1 : x.req.length = 0 := by rw [x3]; rfl
      have l2 : x.prov.length = 0 := by rw [x4]; rfl
      refine fR rfl ?_
      refine lM rfl rfl rfl ?_
      refine fM rfl ?_
      refine Run.condT rfl rfl (by simp; omega) ?_
      refine fR rfl ?_
      refine Mid.elemMap rfl rfl rfl g1 rfl rfl ?_
      refine fM rfl ?_
      refine pu rfl ?_
      refine pu rfl ?_
      refine fM rfl ?_
      refine Mid.elemMap rfl rfl rfl g1 rfl rfl ?_
      refine fM rfl ?_
      refine pu rfl ?_
      refine fM rfl ?_
      refine Mid.elemMap rfl rfl rfl gw rfl rfl ?_
      refine fM rfl ?_
      refine elG rfl rfl rfl rfl g1 rfl rfl ?_
      refine fM rfl ?_
      refine elG rfl rfl rfl rfl g1 rfl rfl ?_
      refine fM rfl ?_
      refine elG rfl rfl rfl rfl g1 rfl rfl ?_
      refine fM rfl ?_
      refine lMG rfl rfl rfl rfl ?_
      refine fM rfl ?_
      refine elG rfl rfl rfl rfl g1 rfl rfl ?_
      refine fM rfl ?_
      refine lMG rfl rfl rfl rfl ?_
      refine aNG rfl rfl rfl rfl ?_
      refine fM rfl ?_
      refine Run.condF rfl rfl (by simp [x1, x2, x3, x4]) ?_
      refine fR rfl ?_
      refine aL rfl rfl rfl rfl rfl ?_
      refine fM rfl ?_
      exact rWeak 3 rfl (ih () trivial) rfl rfl rfl
end Go.GB.C23


/-
  D11R: shapes of chapter 11's arguments.
-/
namespace Go.GB.C11
open Go.GB

theorem spV_ok {P : Program} {vt : TypeId} (hb : P.bytesOf vt = 80) (hs : shOf P (spV vt) 6 vt = some valSh) :
    ∀ e i n xs, spV vt e = some i → xs.length * P.bytesOf e ≤ reachBytes → xs.length ≤ maxLen → (∀ c ∈ xs, WT P n e c) → YA i (.lst xs) := by
  have hv := val_wt hb hs
  intro e i k xs he hr hl hc
  have := reach_le
  unfold spV at he
  split at he
  · rename_i e1; subst e1
    simp only [Option.some.injEq] at he; subst he
    obtain ⟨l, rfl, h3⟩ := choose_map (f := Val.enc) (Q := Val.Ok) xs fun c hcm => hv k c (hc c hcm)
    rw [hb] at hr
    exact ⟨l, rfl, by unfold B47; simp at hr; omega, h3⟩
  · cases he
end Go.GB.C11


/-
  F25J: shapes of graphs and supergraphs, as laws are handed them.
-/
namespace Go.GB.C23
open Go.GB Go.GB.C11
set_option linter.unusedSimpArgs false
set_option linter.unusedVariables false

end Go.GB.C23

