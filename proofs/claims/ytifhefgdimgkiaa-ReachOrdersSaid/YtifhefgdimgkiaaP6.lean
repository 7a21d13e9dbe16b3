/-
  YtifhefgdimgkiaaP6: lemmas of this proof (part 6). No conditions.
-/
import Derived.Test.YtifhefgdimgkiaaP5
import Derived.Test.YtifhefgdimgkiaaP4
import Derived.Test.YtifhefgdimgkiaaP2
import Derived.Carry
import Derived.Handed
import Derived.ChangeSame
import Derived.ProofKit
import Derived.OpenShut

/-
  R26T: contracts of chapter 26's functions: Clone, Child, Roots.
-/
namespace Go.GB.C26
open Go.GB
set_option linter.unusedSimpArgs false
set_option linter.unusedVariables false
set_option maxRecDepth 100000
set_option maxHeartbeats 1000000
variable {P : Program}

theorem clone_ok (H : Pr P) (l : List Str) (hl : l.length ≤ 100000) : FnOk P 31 [.t (.lst (l.map sE))] ⟨[], 0⟩ { v := .t (.lst (l.map sE)) } := by
  refine FnOk.run H.i31 H.mixed rfl rfl ?_
  refine fR rfl ?_
  refine p0 rfl ?_
  refine fM rfl ?_
  refine Run.condU rfl rfl (fun h => ?_) (fun _ => ?_)
  · have hn : l = [] := by
      cases l with
      | nil => rfl
      | cons x r =>
        have := h (sE x) (by simp)
        simp [sE] at this
    subst hn
    refine fR rfl ?_
    refine Run.fin rfl (EndOk.go ?_); exact .nil rfl
  · refine fR rfl ?_
    refine apM sE ([] : List Str) l rfl rfl rfl rfl rfl ?_
    refine fM rfl ?_
    refine Run.fin rfl (EndOk.go ?_); exact .own (by simp)

def childP (n : Nat) (sp : List Spot) (ks : List KeyO) (F : List (Str × Int)) (A : List Int) (f : Str) (g : Int) : List Join → List Spot → List Spot
  | [], acc => acc
  | j :: r, acc => childP n sp ks F A f g r (if (!(j.field == f) || !(j.graph == g) || j.ext) = true then acc else if readP n sp ks F A j > 0 then acc ++ [⟨g, readP n sp ks F A j, j.prov⟩] else acc)
def childG (n : Nat) (sp : List Spot) (js : List Join) (ks : List KeyO) (F : List (Str × Int)) (A : List Int) (f : Str) : Nat → Nat → List Spot → List Spot
  | _, 0, acc => acc
  | i, c + 1, acc => childG n sp js ks F A f (i + 1) c (childP n sp ks F A f i js acc)

section
variable {s : Super} {name : Str} {here sp : List Spot} {js : List Join} {ks : List KeyO} {F : List (Str × Int)} {A : List Int}

theorem childP_len (n : Nat) (sp : List Spot) (ks : List KeyO) (F : List (Str × Int)) (A : List Int) (f : Str) (g : Int) : ∀ (l : List Join) (acc : List Spot), (childP n sp ks F A f g l acc).length ≤ acc.length + l.length
  | [], acc => by simp [childP]
  | j :: r, acc => by
    simp only [childP]
    have := childP_len n sp ks F A f g r (if (!(j.field == f) || !(j.graph == g) || j.ext) = true then acc else if readP n sp ks F A j > 0 then acc ++ [⟨g, readP n sp ks F A j, j.prov⟩] else acc)
    have h2 : (if (!(j.field == f) || !(j.graph == g) || j.ext) = true then acc else if readP n sp ks F A j > 0 then acc ++ [⟨g, readP n sp ks F A j, j.prov⟩] else acc).length ≤ acc.length + 1 := by
      split
      · omega
      · split
        · simp
        · omega
    simp only [List.length_cons]; omega

theorem child_ok (H : Pr P) (h : Sol s name here sp js ks F A) (hjl : js.length ≤ 1000) (f : Str) : FnOk P 20 [s.v, .t (.str name), .t (.lst (here.map Spot.enc)), .t (.str f)] ⟨[], 0⟩ { v := .t (.lst ((childG s.graphs.length sp js ks F A f 0 s.graphs.length []).map Spot.enc)) } := by
  have h1 := h.h1
  have h2 := h.hN.lenA
  have h3 := h.hN.jsL
  refine FnOk.run H.i20 H.mixed rfl rfl ?_
  refine fR rfl ?_
  refine Mid.callR [] (solve_ok1 H h) rfl rfl rfl rfl rfl (by repeat' (first | exact trivial | exact rfl | refine And.intro ?_ ?_ | exact (congrArg some (AObj.ren_mE _ _ _ _ _ _)).symm | exact (congrArg some (AObj.ren_cE _ _ _)).symm)) rfl rfl (ob' := [(2, .map false (mE sE iE F) none), (3, .cells (cE iE A)), (4, .cells (nC4 s sp js ks))]) ((by simp only [renOb, AObj.ren_mE, AObj.ren_cE]; rfl)) rfl rfl ?_
  refine fM rfl ?_
  refine lM rfl rfl rfl ?_
  refine fM rfl ?_
  refine rList s.graphs (fun i (B : List Spot) => { env := [(3, .t (.str f)), (9, .ptr 4 0), (10, .own 5 3 (B.map Spot.enc)), (21, .t (.int .i64 s.graphs.length)), (22, .t (.int .i64 i))], s := ⟨[(2, .map false (mE sE iE F) none), (3, .cells (cE iE A)), (4, .cells (nC4 s sp js ks)), (5, .arr B.length)], 6⟩ }) (fun r i B => B.length ≤ i * js.length ∧ childG s.graphs.length sp js ks F A f 0 s.graphs.length [] = childG s.graphs.length sp js ks F A f i r.length B) 5 [] rfl ⟨by simp, rfl⟩ rfl rfl rfl ?_ ?_
  · rintro B ⟨_, hinv⟩
    refine fR rfl ?_
    refine Run.condF rfl rfl (by simp) ?_
    refine fR rfl ?_
    refine Run.fin rfl (EndOk.go ?_)
    exact .own (by rw [hinv]; rfl)
  · rintro i x r B hi1 hi hd ⟨hl, hinv⟩ ih
    have hl2 : i * js.length ≤ 2000 * js.length := Nat.mul_le_mul_right _ (by omega)
    refine fR rfl ?_
    refine Run.condT rfl rfl (by simp; omega) ?_
    refine fR rfl ?_
    refine lM rfl rfl rfl ?_
    refine fM rfl ?_
    refine rList js (fun k (C : List Spot) => { env := [(3, .t (.str f)), (9, .ptr 4 0), (10, .own 5 3 (C.map Spot.enc)), (11, .t (.int .i64 i)), (21, .t (.int .i64 s.graphs.length)), (22, .t (.int .i64 i)), (28, .t (.lst (js.map Join.enc))), (29, .t (.int .i64 js.length)), (30, .t (.int .i64 k))], s := ⟨[(2, .map false (mE sE iE F) none), (3, .cells (cE iE A)), (4, .cells (nC4 s sp js ks)), (5, .arr C.length)], 6⟩ }) (fun r k C => C.length ≤ i * js.length + k ∧ childP s.graphs.length sp ks F A f i js B = childP s.graphs.length sp ks F A f i r C) 6 B rfl ⟨by simpa using hl, rfl⟩ rfl rfl rfl ?_ ?_
    · rintro C ⟨hCl, hC⟩
      refine fR rfl ?_
      refine Run.condF rfl rfl (by simp) ?_
      refine fR rfl ?_
      refine aL rfl rfl rfl rfl rfl ?_
      refine fM rfl ?_
      exact rWeak 6 rfl (ih C ⟨by rw [Nat.succ_mul]; omega, by rw [hinv]; simp only [List.length_cons, childG]; rw [hC]; rfl⟩) rfl rfl rfl
    · rintro k j r' C hk1 hk hkd ⟨hCl, hC⟩ ihk
      refine fR rfl ?_
      refine Run.condT rfl rfl (by simp; omega) ?_
      refine fR rfl ?_
      refine Mid.elemMap rfl rfl rfl hk1 rfl rfl ?_
      refine fM rfl ?_
      refine Run.cond rfl rfl (fun hc => ?_) (fun hc => ?_)
      · refine fR rfl ?_
        refine aL rfl rfl rfl rfl rfl ?_
        refine fM rfl ?_
        have hc2 : (!(j.field == f) || !(j.graph == i) || j.ext) = true := hc
        exact rWeak 6 rfl (ihk C ⟨by omega, by rw [hC]; simp only [childP]; rw [if_pos hc2]⟩) rfl rfl rfl
      · have hc2 : ¬ (!(j.field == f) || !(j.graph == i) || j.ext) = true := by
          intro e; rw [show (!(j.field == f) || !(j.graph == i) || j.ext) = false from hc] at e; cases e
        refine fR rfl ?_
        refine Mid.callRd [4, 2, 3] (read_ok (F := F) H h.hN j (h.hN.jsO j (List.mem_of_getElem? hk1))) rfl rfl rfl rfl nSto_bd (by repeat' (first | exact trivial | exact rfl | refine And.intro ?_ ?_ | exact (congrArg some (AObj.ren_mE _ _ _ _ _ _)).symm | exact (congrArg some (AObj.ren_cE _ _ _)).symm)) rfl ?_
        refine fM rfl ?_
        refine Run.cond rfl rfl (fun hd' => ?_) (fun hd' => ?_)
        · have hd2 : readP s.graphs.length sp ks F A j > 0 := by simpa using hd'
          refine fR rfl ?_
          refine Mid.call (clone_ok H j.prov (h.hN.jsO j (List.mem_of_getElem? hk1)).2.2) rfl rfl rfl rfl ?_
          refine fM rfl ?_
          refine apM Spot.enc C [(⟨(i : Int), readP s.graphs.length sp ks F A j, j.prov⟩ : Spot)] rfl rfl rfl rfl rfl ?_
          refine fM rfl ?_
          refine aL rfl rfl rfl rfl rfl ?_
          refine fM rfl ?_
          exact rWeak 6 rfl (ihk (C ++ [⟨(i : Int), readP s.graphs.length sp ks F A j, j.prov⟩]) ⟨by simp; omega, by rw [hC]; simp only [childP]; rw [if_neg hc2, if_pos hd2]⟩) rfl rfl rfl
        · have hd2 : ¬ readP s.graphs.length sp ks F A j > 0 := by simpa using hd'
          refine fR rfl ?_
          refine aL rfl rfl rfl rfl rfl ?_
          refine fM rfl ?_
          exact rWeak 6 rfl (ihk C ⟨by omega, by rw [hC]; simp only [childP]; rw [if_neg hc2, if_neg hd2]⟩) rfl rfl rfl
end

def rootJ (name : Str) (g : Int) (j : Join) : Bool := (j.ty == name) && (j.graph == g)
def idxJ (p : Join → Bool) : Int → List Join → Int
  | _, [] => -1
  | i, b :: l => if p b then i else idxJ p (i + 1) l
theorem idxJ_ge (p : Join → Bool) : ∀ (l : List Join) (i : Int), 0 ≤ i → decide (idxJ p i l ≥ 0) = l.any p
  | [], i, h => by simp [idxJ]
  | b :: l, i, h => by
    have ih := idxJ_ge p l (i + 1) (by omega)
    by_cases hp : p b = true
    · simp [idxJ, hp, h]
    · simp only [idxJ, List.any_cons, hp]
      simpa using ih

theorem roots1_ok (H : Pr P) (j : Join) (name : Str) (g : Int) : FnOk P 33 [.agg [.t (.str j.ty), .t (.str j.field), .t (.int .i64 j.graph), .t (.bool j.ext), .t (.lst (j.req.map sE)), .t (.lst (j.prov.map sE))], .ptr 0 0, .ptr 1 0] ⟨[(0, .cells [.t (.str name)]), (1, .cells [.t (.int .i64 g)])], 2⟩ { v := .t (.bool (rootJ name g j)), rd := true } := by
  refine FnOk.run H.i33 H.mixed rfl rfl ?_
  refine fR rfl ?_
  refine Run.fin rfl (EndOk.sameX rfl rfl rfl (by first | exact rfl | exact nSto_bd | exact tSto_bd) (.t (rfl)))
theorem indexFunc_ok (H : Pr P) (l : List Join) (hl : l.length ≤ 100000) (name : Str) (g : Int) : FnOk P 43 [.t (.lst (l.map Join.enc)), .fn 33 [(0, 0), (1, 0)]] ⟨[(0, .cells [.t (.str name)]), (1, .cells [.t (.int .i64 g)])], 2⟩ { v := .t (.int .i64 (idxJ (rootJ name g) 0 l)), rd := true } := by
  refine FnOk.run H.i43 H.mixed rfl rfl ?_
  refine fR rfl ?_
  refine lM rfl rfl rfl ?_
  refine fM rfl ?_
  refine rList l (fun i (_ : Unit) => { env := [(0, .t (.lst (l.map Join.enc))), (1, .fn 33 [(0, 0), (1, 0)]), (7, .t (.int .i64 l.length)), (8, .t (.int .i64 i))], s := ⟨[(0, .cells [.t (.str name)]), (1, .cells [.t (.int .i64 g)])], 2⟩ }) (fun r i _ => idxJ (rootJ name g) 0 l = idxJ (rootJ name g) i r) 2 () rfl rfl rfl rfl rfl ?_ ?_
  · intro _ hinv
    refine fR rfl ?_
    refine Run.condF rfl rfl (by simp) ?_
    refine fR rfl ?_
    refine Run.fin rfl (EndOk.sameX rfl rfl rfl (by first | exact rfl | exact nSto_bd | exact tSto_bd) (.t ((by rw [hinv]; rfl))))
  · intro i x r _ h1 hi hd hinv ih
    refine fR rfl ?_
    refine Run.condT rfl rfl (by simp; omega) ?_
    refine fR rfl ?_
    refine Mid.elemMap rfl rfl rfl h1 rfl rfl ?_
    refine fM rfl ?_
    refine Mid.callvS rfl (roots1_ok H x name g) rfl rfl rfl rfl ?_
    refine fM rfl ?_
    refine Run.cond rfl rfl (fun hc => ?_) (fun hc => ?_)
    · refine fR rfl ?_
      refine Run.fin rfl (EndOk.sameX rfl rfl rfl (by first | exact rfl | exact nSto_bd | exact tSto_bd) (.t ((by rw [hinv]; simp [idxJ, hc]))))
    · refine fR rfl ?_
      refine aL rfl rfl rfl rfl rfl ?_
      refine fM rfl ?_
      exact rWeak 2 rfl (ih () (by rw [hinv]; simp [idxJ, hc])) rfl rfl rfl
theorem containsFunc_ok (H : Pr P) (l : List Join) (hl : l.length ≤ 100000) (name : Str) (g : Int) : FnOk P 32 [.t (.lst (l.map Join.enc)), .fn 33 [(0, 0), (1, 0)]] ⟨[(0, .cells [.t (.str name)]), (1, .cells [.t (.int .i64 g)])], 2⟩ { v := .t (.bool (l.any (rootJ name g))), rd := true } := by
  refine FnOk.run H.i32 H.mixed rfl rfl ?_
  refine fR rfl ?_
  refine Mid.callS (indexFunc_ok H l hl name g) rfl rfl (by first | exact rfl | exact nSto_bd | exact tSto_bd) rfl ?_
  refine fM rfl ?_
  refine Run.fin rfl (EndOk.sameX rfl rfl rfl (by first | exact rfl | exact nSto_bd | exact tSto_bd) (.t ((by rw [← idxJ_ge (rootJ name g) l 0 (by omega)]))))

def rootsP (name : Str) (js : List Join) : Nat → Nat → List Spot → List Spot
  | _, 0, acc => acc
  | i, c + 1, acc => rootsP name js (i + 1) c (if js.any (rootJ name i) = true then acc ++ [⟨i, 1, []⟩] else acc)
theorem roots_ok (H : Pr P) (s : Super) (name : Str) (h1 : s.graphs.length ≤ 2000) (h3 : s.joins.length ≤ 100000) : FnOk P 22 [s.v, .t (.str name)] ⟨[], 0⟩ { v := .t (.lst ((rootsP name s.joins 0 s.graphs.length []).map Spot.enc)) } := by
  refine FnOk.run H.i22 H.mixed rfl rfl ?_
  refine fR rfl ?_
  refine lM rfl rfl rfl ?_
  refine fM rfl ?_
  refine rList s.graphs (fun i (B : List Spot) => { env := [(2, .ptr 0 0), (3, .ptr 1 0), (5, .own 2 3 (B.map Spot.enc)), (9, .t (.int .i64 s.graphs.length)), (10, .t (.int .i64 i))], s := ⟨[(0, .cells [.t (.lst (s.graphs.map sE)), .t s.doc, .t (.lst (s.keys.map KeyO.enc)), .t (.lst (s.joins.map Join.enc))]), (1, .cells [.t (.str name)]), (2, .arr B.length)], 3⟩ }) (fun r i B => B.length ≤ i ∧ rootsP name s.joins 0 s.graphs.length [] = rootsP name s.joins i r.length B) 2 [] rfl ⟨by simp, rfl⟩ rfl rfl rfl ?_ ?_
  · rintro B ⟨_, hinv⟩
    refine fR rfl ?_
    refine Run.condF rfl rfl (by simp) ?_
    refine fR rfl ?_
    refine Run.fin rfl (EndOk.go ?_)
    exact .own (by rw [hinv]; rfl)
  · rintro i x r B hi1 hi hd ⟨hl, hinv⟩ ih
    refine fR rfl ?_
    refine Run.condT rfl rfl (by simp; omega) ?_
    refine fR rfl ?_
    refine Mid.callRd [1, 3] (containsFunc_ok H s.joins h3 name i) rfl rfl rfl rfl (by simp [stoBd]; simp [AObj.bd, V.bds, V.bd]) (by repeat' (first | exact trivial | exact rfl | refine And.intro ?_ ?_ | exact (congrArg some (AObj.ren_mE _ _ _ _ _ _)).symm | exact (congrArg some (AObj.ren_cE _ _ _)).symm)) rfl ?_
    refine fM rfl ?_
    refine Run.cond rfl rfl (fun hc => ?_) (fun hc => ?_)
    · refine fR rfl ?_
      refine apM Spot.enc B [(⟨(i : Int), 1, []⟩ : Spot)] rfl rfl rfl rfl rfl ?_
      refine fM rfl ?_
      refine aL rfl rfl rfl rfl rfl ?_
      refine fM rfl ?_
      exact rWeak 3 rfl (ih (B ++ [⟨(i : Int), 1, []⟩]) ⟨by simp; omega, by rw [hinv]; simp only [List.length_cons, rootsP]; rw [if_pos hc]⟩) rfl rfl rfl
    · refine fR rfl ?_
      refine aL rfl rfl rfl rfl rfl ?_
      refine fM rfl ?_
      exact rWeak 3 rfl (ih B ⟨by omega, by rw [hinv]; simp only [List.length_cons, rootsP]; rw [if_neg (by rw [hc]; simp)]⟩) rfl rfl rfl
end Go.GB.C26

/-
  R26V: contracts of chapter 26's functions: the reference's Child, Roots, Spots; the law's twice.
-/
namespace Go.GB.C26
open Go.GB
set_option linter.unusedSimpArgs false
set_option linter.unusedVariables false
set_option maxRecDepth 100000
set_option maxHeartbeats 1000000
variable {P : Program}

def tchildC (D : List Int) (f : Str) (g : Int) (i : Nat) (j : Join) : Bool := (j.graph == g) && (j.field == f) && !j.ext && decide (D.getD i 0 > 0)
def tchildP (D : List Int) (f : Str) (g : Int) : Nat → List Join → List Spot → List Spot
  | _, [], acc => acc
  | i, j :: r, acc => tchildP D f g (i + 1) r (if tchildC D f g i j = true then acc ++ [⟨g, D.getD i 0, j.prov⟩] else acc)
def tchildG (js : List Join) (D : List Int) (f : Str) : Nat → Nat → List Spot → List Spot
  | _, 0, acc => acc
  | i, c + 1, acc => tchildG js D f (i + 1) c (tchildP D f i 0 js acc)

section
variable {s : Super} {name : Str} {here sp : List Spot} {js : List Join} {ks : List KeyO} {D A : List Int}

theorem rChild_ok (H : Pr P) (h : Fil s name here sp js ks D A) (hjl : js.length ≤ 1000) (hjp : ∀ j, j ∈ js → j.prov.length ≤ 100000) (f : Str) : FnOk P 21 [s.v, .t (.str name), .t (.lst (here.map Spot.enc)), .t (.str f)] ⟨[], 0⟩ { v := .t (.lst ((tchildG js D f 0 s.graphs.length []).map Spot.enc)) } := by
  have h1 := h.h1
  have h2 := h.hD1
  refine FnOk.run H.i21 H.mixed rfl rfl ?_
  refine fR rfl ?_
  refine Mid.callR [] (fill_ok H h) rfl rfl rfl rfl rfl (by repeat' (first | exact trivial | exact rfl | refine And.intro ?_ ?_ | exact (congrArg some (AObj.ren_mE _ _ _ _ _ _)).symm | exact (congrArg some (AObj.ren_cE _ _ _)).symm)) rfl rfl (ob' := [(3, .cells (tC4 s sp js ks)), (5, .cells (cE iE D)), (6, .cells (cE iE A))]) ((by simp only [renOb, AObj.ren_mE, AObj.ren_cE]; rfl)) rfl rfl ?_
  refine fM rfl ?_
  refine rList (List.range s.graphs.length) (fun i (B : List Spot) => { env := [(3, .t (.str f)), (9, .ptr 3 0), (10, .own 7 3 (B.map Spot.enc)), (11, .t (.int .i64 i))], s := ⟨[(3, .cells (tC4 s sp js ks)), (5, .cells (cE iE D)), (6, .cells (cE iE A)), (7, .arr B.length)], 8⟩ }) (fun r i B => B.length ≤ i * js.length ∧ tchildG js D f 0 s.graphs.length [] = tchildG js D f i r.length B) 7 [] rfl ⟨by simp, by simp⟩ rfl rfl rfl ?_ ?_
  · rintro B ⟨_, hinv⟩
    refine fR rfl ?_
    refine Run.condF rfl rfl (by simp) ?_
    refine fR rfl ?_
    refine Run.fin rfl (EndOk.go ?_)
    exact .own (by rw [hinv]; rfl)
  · rintro i x r B hi1 hi hd ⟨hl, hinv⟩ ih
    simp only [List.length_range] at hi
    have hl2 : i * js.length ≤ 2000 * js.length := Nat.mul_le_mul_right _ (by omega)
    refine fR rfl ?_
    refine Run.condT rfl rfl (by simp; omega) ?_
    refine fR rfl ?_
    refine rList js (fun k (C : List Spot) => { env := [(3, .t (.str f)), (9, .ptr 3 0), (10, .own 7 3 (C.map Spot.enc)), (11, .t (.int .i64 i)), (12, .t (.int .i64 k))], s := ⟨[(3, .cells (tC4 s sp js ks)), (5, .cells (cE iE D)), (6, .cells (cE iE A)), (7, .arr C.length)], 8⟩ }) (fun r k C => C.length ≤ i * js.length + k ∧ tchildP D f i 0 js B = tchildP D f i k r C) 8 B rfl ⟨by simpa using hl, rfl⟩ rfl rfl rfl ?_ ?_
    · rintro C ⟨hCl, hC⟩
      refine fR rfl ?_
      refine lM rfl rfl rfl ?_
      refine fM rfl ?_
      refine Run.condF rfl rfl (by simp) ?_
      refine fR rfl ?_
      refine aL rfl rfl rfl rfl rfl ?_
      refine fM rfl ?_
      exact rWeak 8 rfl (ih C ⟨by rw [Nat.succ_mul]; omega, by rw [hinv]; simp only [List.length_cons, tchildG]; rw [hC]; rfl⟩) rfl rfl rfl
    · rintro k j r' C hk1 hk hkd ⟨hCl, hC⟩ ihk
      have hgd : D[0 + k * 1]? = some (D.getD k 0) := by
        have e : 0 + k * 1 = k := by omega
        rw [e, List.getD_eq_getElem?_getD, List.getElem?_eq_getElem (by omega)]; rfl
      have hjp' := hjp j (List.mem_of_getElem? hk1)
      refine fR rfl ?_
      refine lM rfl rfl rfl ?_
      refine fM rfl ?_
      refine Run.condT rfl rfl (by simp; omega) ?_
      refine fR rfl ?_
      refine Mid.elemMap rfl rfl rfl hk1 rfl rfl ?_
      refine fM rfl ?_
      refine gr rfl ?_
      refine Mid.ldEG rfl rfl rfl (hgd) (by (repeat' (first | exact trivial | exact Bool.not_or_self _ | exact grd1 _ | exact grd2 _ | exact grd3 _ _ | exact grd4 _ _ | refine And.intro ?_ ?_ | exact rfl | (simp; done) | (simp <;> omega))); done) rfl ?_
      refine fM rfl ?_
      refine Run.cond rfl rfl (fun hc => ?_) (fun hc => ?_)
      · have hc2 : tchildC D f i k j = true := hc
        refine fR rfl ?_
        refine apN sE j.prov rfl rfl rfl ?_ (h1 := by omega) (h2 := by omega)
        refine fM rfl ?_
        refine Mid.iaS rfl rfl (by omega) rfl ?_
        refine Mid.ldE rfl rfl (hgd) rfl ?_
        refine fM rfl ?_
        refine apM Spot.enc C [(⟨(i : Int), D.getD k 0, j.prov⟩ : Spot)] rfl rfl rfl rfl rfl ?_
        refine fM rfl ?_
        refine aL rfl rfl rfl rfl rfl ?_
        refine fM rfl ?_
        exact rWeak 8 rfl (ihk (C ++ [⟨(i : Int), D.getD k 0, j.prov⟩]) ⟨by simp; omega, by rw [hC]; simp only [tchildP]; rw [if_pos hc2]⟩) rfl rfl rfl
      · have hc2 : ¬ tchildC D f i k j = true := by
          intro e; rw [show tchildC D f i k j = false from hc] at e; cases e
        refine fR rfl ?_
        refine aL rfl rfl rfl rfl rfl ?_
        refine fM rfl ?_
        exact rWeak 8 rfl (ihk C ⟨by omega, by rw [hC]; simp only [tchildP]; rw [if_neg hc2]⟩) rfl rfl rfl
end

def trootsP (js : List Join) : Nat → Nat → List Spot → List Spot
  | _, 0, acc => acc
  | i, c + 1, acc => trootsP js (i + 1) c (if (js.any fun j => j.graph == i) = true then acc ++ [⟨i, 1, []⟩] else acc)
theorem rRoots_ok (H : Pr P) (s : Super) (name : Str) (js : List Join) (ks : List KeyO) (h1 : s.graphs.length ≤ 2000) (h3 : s.joins.length ≤ 100000) (h4 : s.keys.length ≤ 100000)
    (e2 : joinsR s.graphs.length name [] s.joins [] = js) (e3 : keys0 s.graphs.length name s.keys [] = ks) (hl : js.length ≤ 100000) :
    FnOk P 23 [s.v, .t (.str name)] ⟨[], 0⟩ { v := .t (.lst ((trootsP js 0 s.graphs.length []).map Spot.enc)) } := by
  refine FnOk.run H.i23 H.mixed rfl rfl ?_
  refine fR rfl ?_
  refine Mid.callR [] (open_ok (here := []) H h1 (by simp) h3 h4 rfl e2 e3 hl) rfl rfl rfl rfl rfl (by repeat' (first | exact trivial | exact rfl | refine And.intro ?_ ?_ | exact (congrArg some (AObj.ren_mE _ _ _ _ _ _)).symm | exact (congrArg some (AObj.ren_cE _ _ _)).symm)) rfl rfl (ob' := [(2, .cells [.t (.int .i64 s.graphs.length), .t (.lst (js.map Join.enc)), .t (.lst (ks.map KeyO.enc)), .t (.lst (([] : List Spot).map Spot.enc)), .slc 4 0 js.length 1, .slc 5 0 s.graphs.length 1]), (4, .cells (cE iE (List.replicate js.length 0))), (5, .cells (cE iE (List.replicate s.graphs.length 0)))]) ((by simp only [renOb, AObj.ren_mE, AObj.ren_cE]; rfl)) rfl rfl ?_
  refine fM rfl ?_
  refine rList (List.range s.graphs.length) (fun i (B : List Spot) => { env := [(5, .ptr 2 0), (6, .own 6 3 (B.map Spot.enc)), (7, .t (.int .i64 i))], s := ⟨[(2, .cells [.t (.int .i64 s.graphs.length), .t (.lst (js.map Join.enc)), .t (.lst (ks.map KeyO.enc)), .t (.lst (([] : List Spot).map Spot.enc)), .slc 4 0 js.length 1, .slc 5 0 s.graphs.length 1]), (4, .cells (cE iE (List.replicate js.length 0))), (5, .cells (cE iE (List.replicate s.graphs.length 0))), (6, .arr B.length)], 7⟩ }) (fun r i B => B.length ≤ i ∧ trootsP js 0 s.graphs.length [] = trootsP js i r.length B) 6 [] rfl ⟨by simp, by simp⟩ rfl rfl rfl ?_ ?_
  · rintro B ⟨_, hinv⟩
    refine fR rfl ?_
    refine Run.condF rfl rfl (by simp) ?_
    refine fR rfl ?_
    refine Run.fin rfl (EndOk.go ?_)
    exact .own (by rw [hinv]; rfl)
  · rintro i x r B hi1 hi hd ⟨hl2, hinv⟩ ih
    simp only [List.length_range] at hi
    refine fR rfl ?_
    refine Run.condT rfl rfl (by simp; omega) ?_
    refine fR rfl ?_
    refine rList js (fun k (f : Bool) => { env := [(5, .ptr 2 0), (6, .own 6 3 (B.map Spot.enc)), (7, .t (.int .i64 i)), (8, .t (.bool f)), (9, .t (.int .i64 k))], s := ⟨[(2, .cells [.t (.int .i64 s.graphs.length), .t (.lst (js.map Join.enc)), .t (.lst (ks.map KeyO.enc)), .t (.lst (([] : List Spot).map Spot.enc)), .slc 4 0 js.length 1, .slc 5 0 s.graphs.length 1]), (4, .cells (cE iE (List.replicate js.length 0))), (5, .cells (cE iE (List.replicate s.graphs.length 0))), (6, .arr B.length)], 7⟩ }) (fun r k f => (js.any fun j => j.graph == i) = (f || r.any fun j => j.graph == i)) 7 false rfl (by simp) rfl rfl rfl ?_ ?_
    · intro f hf
      have hf' : (js.any fun j => j.graph == i) = f := by rw [hf]; simp
      refine fR rfl ?_
      refine lM rfl rfl rfl ?_
      refine fM rfl ?_
      refine Run.condF rfl rfl (by simp) ?_
      refine fR rfl ?_
      refine Run.cond rfl rfl (fun hc => ?_) (fun hc => ?_)
      · have hc2 : (js.any fun j => j.graph == i) = true := by rw [hf']; exact hc
        refine fR rfl ?_
        refine apM Spot.enc B [(⟨(i : Int), 1, []⟩ : Spot)] rfl rfl rfl rfl rfl ?_
        refine fM rfl ?_
        refine aL rfl rfl rfl rfl rfl ?_
        refine fM rfl ?_
        exact rWeak 7 rfl (ih (B ++ [⟨(i : Int), 1, []⟩]) ⟨by simp; omega, by rw [hinv]; simp only [List.length_cons, trootsP]; rw [if_pos hc2]⟩) rfl rfl rfl
      · have hc2 : ¬ (js.any fun j => j.graph == i) = true := by rw [hf']; rw [show f = false from hc]; simp
        refine fR rfl ?_
        refine aL rfl rfl rfl rfl rfl ?_
        refine fM rfl ?_
        exact rWeak 7 rfl (ih B ⟨by omega, by rw [hinv]; simp only [List.length_cons, trootsP]; rw [if_neg hc2]⟩) rfl rfl rfl
    · intro k j r' f hk1 hk hkd hf ihk
      refine fR rfl ?_
      refine lM rfl rfl rfl ?_
      refine fM rfl ?_
      refine Run.condT rfl rfl (by simp; omega) ?_
      refine fR rfl ?_
      refine elG rfl rfl rfl rfl hk1 rfl rfl ?_
      refine fM rfl ?_
      refine aL rfl rfl rfl rfl rfl ?_
      refine fM rfl ?_
      exact rWeak 7 rfl (ihk (bif f then true else (j.graph == (i : Int))) (by rw [hf]; simp only [List.any_cons]; cases f <;> simp)) rfl rfl rfl

instance spotDec : DecidableEq Spot := fun a b =>
  if h : a.graph = b.graph ∧ a.depth = b.depth ∧ a.prov = b.prov then .isTrue (by cases a; cases b; simp at h; simp [h]) else .isFalse (fun e => h (by rw [e]; simp))
def spotD (a b : Spot) : Bool := !(a.graph == b.graph) || !(a.depth == b.depth) || !((a.prov.length : Int) == (b.prov.length : Int))
theorem spotsEq_ok (H : Pr P) (a b : List Spot) (ha : a.length ≤ 100000) (hp : ∀ x, x ∈ a → x.prov.length ≤ 100000) : FnOk P 19 [.t (.lst (a.map Spot.enc)), .t (.lst (b.map Spot.enc))] ⟨[], 0⟩ { v := .t (.bool (decide (a = b))) } := by
  refine FnOk.run H.i19 H.mixed rfl rfl ?_
  refine fR rfl ?_
  refine lM rfl rfl rfl ?_
  refine fM rfl ?_
  refine lM rfl rfl rfl ?_
  refine fM rfl ?_
  refine Run.cond rfl rfl (fun h => ?_) (fun h => ?_)
  · refine fR rfl ?_
    refine Run.fin rfl (EndOk.go ?_)
    have : ¬ a = b := by rintro rfl; simp at h
    exact .t (by simp [this])
  · refine fR rfl ?_
    have hl : a.length = b.length := by
      have : ((a.length : Nat) : Int) = (b.length : Nat) := by simpa using h
      omega
    refine rList a (fun i (_ : Unit) => { env := [(0, .t (.lst (a.map Spot.enc))), (1, .t (.lst (b.map Spot.enc))), (5, .t (.int .i64 i))], s := ⟨[], 0⟩ }) (fun r i _ => (a = b) = (r = b.drop i)) 0 () rfl (by simp) rfl rfl rfl ?_ ?_
    · intro _ hinv
      refine fR rfl ?_
      refine lM rfl rfl rfl ?_
      refine fM rfl ?_
      refine Run.condF rfl rfl (by simp) ?_
      refine fR rfl ?_
      have : a = b := by rw [hinv]; simp [hl]
      refine Run.fin rfl (EndOk.go ?_); exact .t (by simp [this])
    · rintro i ⟨xg, xd, xp⟩ r _ h1 hi hd hinv ih
      have h2 : b[i]? = some (b[i]'(by omega)) := by simp
      have hdb : b.drop i = b[i]'(by omega) :: b.drop (i + 1) := List.drop_eq_getElem_cons (by omega)
      have hpx : xp.length ≤ 100000 := hp _ (List.mem_of_getElem? h1)
      generalize b[i]'(by omega) = y at h2 hdb
      obtain ⟨yg, yd, yp⟩ := y
      refine fR rfl ?_
      refine lM rfl rfl rfl ?_
      refine fM rfl ?_
      refine Run.condT rfl rfl (by simp; omega) ?_
      refine fR rfl ?_
      refine Mid.elemMap rfl rfl rfl h1 rfl rfl ?_
      refine fM rfl ?_
      refine Mid.elemMap rfl rfl rfl h2 rfl rfl ?_
      refine fM rfl ?_
      refine elG rfl rfl rfl rfl h1 rfl rfl ?_
      refine fM rfl ?_
      refine elG rfl rfl rfl rfl h2 rfl rfl ?_
      refine fM rfl ?_
      refine elG rfl rfl rfl rfl h1 rfl rfl ?_
      refine fM rfl ?_
      refine lMG rfl rfl rfl rfl ?_
      refine fM rfl ?_
      refine elG rfl rfl rfl rfl h2 rfl rfl ?_
      refine fM rfl ?_
      refine lMG rfl rfl rfl rfl ?_
      refine fM rfl ?_
      refine Run.cond rfl rfl (fun hc => ?_) (fun hc => ?_)
      · refine fR rfl ?_
        have hc2 : spotD ⟨xg, xd, xp⟩ ⟨yg, yd, yp⟩ = true := hc
        have : ¬ a = b := by
          rw [hinv, hdb]; intro e
          have e2 := (List.cons.inj e).1
          rw [e2] at hc2; simp [spotD] at hc2
        refine Run.fin rfl (EndOk.go ?_); exact .t (by simp [this])
      · have hc2 : spotD ⟨xg, xd, xp⟩ ⟨yg, yd, yp⟩ = false := hc
        have hc3 : xg = yg ∧ xd = yd ∧ xp.length = yp.length := by
          simp [spotD] at hc2; exact ⟨hc2.1.1, hc2.1.2, by omega⟩
        obtain ⟨rfl, rfl, hpl⟩ := hc3
        refine fR rfl ?_
        refine rList xp (fun k (_ : Unit) => { env := [(0, .t (.lst (a.map Spot.enc))), (1, .t (.lst (b.map Spot.enc))), (5, .t (.int .i64 i)), (6, .t (.int .i64 k))], s := ⟨[], 0⟩ }) (fun r' k _ => (a = b) = (r = b.drop (i + 1) ∧ r' = yp.drop k)) 0 () rfl (by rw [hinv, hdb, List.cons.injEq]; simp [and_comm]) rfl rfl rfl ?_ ?_
        · intro _ hk
          refine fR rfl ?_
          refine Mid.elemMap rfl rfl rfl h1 rfl rfl ?_
          refine fM rfl ?_
          refine lM rfl rfl rfl ?_
          refine fM rfl ?_
          refine Run.condF rfl rfl (by simp) ?_
          refine fR rfl ?_
          refine aL rfl rfl rfl rfl rfl ?_
          refine fM rfl ?_
          exact rWeak 0 rfl (ih () (by rw [hk]; simp [hpl])) rfl rfl rfl
        · intro k s r' _ hk1 hk hkd hkinv ihk
          have hk2 : yp[k]? = some (yp[k]'(by omega)) := by simp
          have hdk : yp.drop k = yp[k]'(by omega) :: yp.drop (k + 1) := List.drop_eq_getElem_cons (by omega)
          generalize yp[k]'(by omega) = u at hk2 hdk
          refine fR rfl ?_
          refine Mid.elemMap rfl rfl rfl h1 rfl rfl ?_
          refine fM rfl ?_
          refine lM rfl rfl rfl ?_
          refine fM rfl ?_
          refine Run.condT rfl rfl (by simp; omega) ?_
          refine fR rfl ?_
          refine Mid.elemMap rfl rfl rfl h1 rfl rfl ?_
          refine fM rfl ?_
          refine Mid.elemMap rfl rfl rfl hk1 rfl rfl ?_
          refine fM rfl ?_
          refine Mid.elemMap rfl rfl rfl h2 rfl rfl ?_
          refine fM rfl ?_
          refine Mid.elemMap rfl rfl rfl hk2 rfl rfl ?_
          refine fM rfl ?_
          refine Run.cond rfl rfl (fun hs => ?_) (fun hs => ?_)
          · refine fR rfl ?_
            have hne : ¬ s = u := by simpa using hs
            have : ¬ a = b := by rw [hkinv, hdk]; exact fun e => hne (List.cons.inj e.2).1
            refine Run.fin rfl (EndOk.go ?_); exact .t (by simp [this])
          · refine fR rfl ?_
            refine aL rfl rfl rfl rfl rfl ?_
            refine fM rfl ?_
            have he : s = u := by simpa using hs
            exact rWeak 0 rfl (ihk () (by rw [hkinv, hdk, he]; simp)) rfl rfl rfl

def twiceI (x : Join) : List Join → Bool
  | [] => false
  | y :: r => if sameJ x y = true then true else twiceI x r
def twiceP : List Join → List Join → Bool
  | _, [] => false
  | pre, x :: r => if twiceI x pre = true then true else twiceP (pre ++ [x]) r
theorem twice_ok (H : Pr P) (l : List Join) (hl : l.length ≤ 100000) : FnOk P 15 [.t (.lst (l.map Join.enc))] ⟨[], 0⟩ { v := .t (.bool (twiceP [] l)) } := by
  refine FnOk.run H.i15 H.mixed rfl rfl ?_
  refine fR rfl ?_
  refine rList l (fun i (_ : Unit) => { env := [(0, .t (.lst (l.map Join.enc))), (3, .t (.int .i64 i))], s := ⟨[], 0⟩ }) (fun r i _ => twiceP [] l = twiceP (l.take i) r) 0 () rfl rfl rfl rfl rfl ?_ ?_
  · intro _ hinv
    refine fR rfl ?_
    refine lM rfl rfl rfl ?_
    refine fM rfl ?_
    refine Run.condF rfl rfl (by simp) ?_
    refine fR rfl ?_
    refine Run.fin rfl (EndOk.go ?_); exact .t (by rw [hinv]; rfl)
  · intro i x r _ h1 hi hd hinv ih
    have htk : l.take (i + 1) = l.take i ++ [x] := by rw [List.take_add_one, h1]; rfl
    refine fR rfl ?_
    refine lM rfl rfl rfl ?_
    refine fM rfl ?_
    refine Run.condT rfl rfl (by simp; omega) ?_
    refine fR rfl ?_
    refine rList (l.take i) (fun k (_ : Unit) => { env := [(0, .t (.lst (l.map Join.enc))), (3, .t (.int .i64 i)), (4, .t (.int .i64 k))], s := ⟨[], 0⟩ }) (fun r k _ => twiceI x (l.take i) = twiceI x r) 0 () rfl rfl rfl rfl rfl ?_ ?_
    · intro _ hk
      have hlen : (l.take i).length = i := by simp; omega
      refine fR rfl ?_
      refine Run.condF rfl rfl (by simp; omega) ?_
      refine fR rfl ?_
      refine aL rfl rfl rfl rfl rfl ?_
      refine fM rfl ?_
      have hk' : ¬ twiceI x (l.take i) = true := by rw [hk]; simp [twiceI]
      exact rWeak 0 rfl (ih () (by rw [hinv, htk]; simp only [twiceP]; rw [if_neg hk'])) rfl rfl rfl
    · intro k y r' _ hk1 hk hkd hkinv ihk
      have hlen : (l.take i).length = i := by simp; omega
      have hk2 : l[k]? = some y := by rw [List.getElem?_take] at hk1; split at hk1 <;> simp_all
      refine fR rfl ?_
      refine Run.condT rfl rfl (by simp; omega) ?_
      refine fR rfl ?_
      refine Mid.elemMap rfl rfl rfl h1 rfl rfl ?_
      refine fM rfl ?_
      refine Mid.elemMap rfl rfl rfl hk2 rfl rfl ?_
      refine fM rfl ?_
      refine elG rfl rfl rfl rfl h1 rfl rfl ?_
      refine fM rfl ?_
      refine elG rfl rfl rfl rfl hk2 rfl rfl ?_
      refine fM rfl ?_
      refine elG rfl rfl rfl rfl h1 rfl rfl ?_
      refine fM rfl ?_
      refine elG rfl rfl rfl rfl hk2 rfl rfl ?_
      refine fM rfl ?_
      refine Run.cond rfl rfl (fun hc => ?_) (fun hc => ?_)
      · refine fR rfl ?_
        have hc2 : sameJ x y = true := hc
        have : twiceP [] l = true := by
          rw [hinv]; simp only [twiceP]; rw [if_pos]; rw [hkinv]; simp [twiceI, hc2]
        refine Run.fin rfl (EndOk.go ?_); exact .t (by rw [this])
      · refine fR rfl ?_
        refine aL rfl rfl rfl rfl rfl ?_
        refine fM rfl ?_
        have hc2 : ¬ sameJ x y = true := by
          intro e; rw [show sameJ x y = false from hc] at e; cases e
        exact rWeak 0 rfl (ihk () (by rw [hkinv]; simp only [twiceI]; rw [if_neg hc2])) rfl rfl rfl
end Go.GB.C26

/-
  R26W: chapter 26's plain law.
-/
namespace Go.GB.C26
open Go.GB
set_option linter.unusedSimpArgs false
set_option linter.unusedVariables false
set_option maxRecDepth 100000

theorem small_of {s : Super} {here : List Spot} (h : largeP s here = false) (ho : ∀ x, x ∈ here → x.ok) : Small s here := by
  simp only [largeP, Bool.or_eq_false_iff] at h
  obtain ⟨⟨h0, h1⟩, h2⟩ := h
  simp only [big0, Bool.or_eq_false_iff, decide_eq_false_iff_not] at h0
  rw [List.any_eq_false] at h1 h2
  refine ⟨by omega, by omega, by omega, by omega, fun j hj => ?_, fun k hk => ?_, ho⟩
  · have := h1 j hj; simp [bigJ] at this; omega
  · have := h2 k hk; simp [bigK] at this; omega

theorem posJ_lt {js : List Join} {i : Nat} {j : Join} (hj : js[i]? = some j) : i < js.length := by
  rcases Nat.lt_or_ge i js.length with h | h
  · exact h
  · rw [List.getElem?_eq_none h] at hj; cases hj

section
variable {s : Super} {name : Str} {here : List Spot} {F : List (Str × Int)} {A D A' : List Int}

theorem graphs_eq {sp : List Spot} {js : List Join} {ks : List KeyO} {l l' : Str → Int} {rd rd' : Join → Int} {n : Nat} (h : Ans n sp js ks (fun g => A.getD g 0) l rd) (h' : Ans n sp js ks (fun g => A'.getD g 0) l' rd') (hl : n ≤ A.length) (hl' : A'.length = n) : A.take n = A' := by
  apply List.ext_getElem
  · simp; omega
  · intro i h1 h2
    have := h.eqA h' i (by omega)
    simp only [List.getD_eq_getElem?_getD, List.getElem?_eq_getElem h2, List.getElem?_eq_getElem (show i < A.length by omega), Option.getD_some] at this
    simpa using this

theorem levels_eq {n : Nat} {sp : List Spot} {ks : List KeyO} : ∀ (l : List Join) (i : Nat) (acc : List Level), (∀ k j, l[k]? = some j → readP n sp ks F A j = D.getD (i + k) 0) → levelsP n sp ks F A l acc = tlevels D i l acc
  | [], i, acc, h => rfl
  | j :: r, i, acc, h => by
    have h0 := h 0 j rfl
    simp only [Nat.add_zero] at h0
    simp only [levelsP, tlevels, h0]
    exact levels_eq r (i + 1) _ fun k y hk => by rw [show i + 1 + k = i + (k + 1) by omega]; exact h (k + 1) y (by simpa using hk)
theorem childP_eq {n : Nat} {sp : List Spot} {ks : List KeyO} (f : Str) (g : Int) : ∀ (l : List Join) (i : Nat) (acc : List Spot), (∀ k j, l[k]? = some j → readP n sp ks F A j = D.getD (i + k) 0) → childP n sp ks F A f g l acc = tchildP D f g i l acc
  | [], i, acc, h => rfl
  | j :: r, i, acc, h => by
    have h0 := h 0 j rfl
    simp only [Nat.add_zero] at h0
    simp only [childP, tchildP, h0, tchildC]
    have e : (if (!(j.field == f) || !(j.graph == g) || j.ext) = true then acc else if D.getD i 0 > 0 then acc ++ [⟨g, D.getD i 0, j.prov⟩] else acc) =
        (if ((j.graph == g) && (j.field == f) && !j.ext && decide (D.getD i 0 > 0)) = true then acc ++ [⟨g, D.getD i 0, j.prov⟩] else acc) := by
      cases (j.graph == g) <;> cases (j.field == f) <;> cases j.ext <;> by_cases hd : D.getD i 0 > 0 <;> simp [hd]
    rw [e]
    exact childP_eq f g r (i + 1) _ fun k y hk => by rw [show i + 1 + k = i + (k + 1) by omega]; exact h (k + 1) y (by simpa using hk)
theorem childG_eq {n : Nat} {sp : List Spot} {js : List Join} {ks : List KeyO} (f : Str) (h : ∀ k j, js[k]? = some j → readP n sp ks F A j = D.getD k 0) : ∀ (c i : Nat) (acc : List Spot), childG n sp js ks F A f i c acc = tchildG js D f i c acc
  | 0, i, acc => rfl
  | c + 1, i, acc => by
    simp only [childG, tchildG]
    rw [childP_eq f i js 0 acc (fun k j hk => by rw [Nat.zero_add]; exact h k j hk)]
    exact childG_eq f h c (i + 1) _

theorem joinsR_cov (n : Nat) (name : Str) : ∀ (l pre acc : List Join), (∀ y, y ∈ pre → y.ty = name → 0 ≤ y.graph → y.graph < n → ∃ x, x ∈ acc ∧ sameJ x y = true) →
    ∀ y, y ∈ pre ++ l → y.ty = name → 0 ≤ y.graph → y.graph < n → ∃ x, x ∈ joinsR n name pre l acc ∧ sameJ x y = true
  | [], pre, acc, h => by simpa [joinsR] using h
  | j :: r, pre, acc, h => by
    intro y hy h1 h2 h3
    simp only [joinsR]
    refine joinsR_cov n name r (pre ++ [j]) _ (fun z hz k1 k2 k3 => ?_) y (by simpa using hy) h1 h2 h3
    rcases List.mem_append.1 hz with hz | hz
    · obtain ⟨x, a, b⟩ := h z hz k1 k2 k3
      refine ⟨x, ?_, b⟩
      split
      · exact List.mem_append_left _ a
      · exact a
    · simp at hz; subst hz
      by_cases hb : inR n name z (firstJ z pre true) = true
      · rw [if_pos hb]; exact ⟨z, by simp, by simp [sameJ]⟩
      · rw [if_neg hb]
        simp [inR, firstJ_any] at hb
        obtain ⟨u, hu, hs⟩ := hb k1 k2 k3
        have hs' := (sameJ_iff u z).1 hs
        obtain ⟨x, a, b⟩ := h u hu (by rw [hs'.1, k1]) (by omega) (by omega)
        have hb' := (sameJ_iff x u).1 b
        exact ⟨x, a, (sameJ_iff x z).2 ⟨by rw [hb'.1, hs'.1], by rw [hb'.2.1, hs'.2.1], by rw [hb'.2.2, hs'.2.2]⟩⟩
theorem joinsOf_cov (s : Super) (name : Str) (y : Join) (hy : y ∈ s.joins) (h1 : y.ty = name) (h2 : 0 ≤ y.graph) (h3 : y.graph < s.graphs.length) : ∃ x, x ∈ joinsOf s name ∧ sameJ x y = true :=
  joinsR_cov _ _ s.joins [] [] (fun y hy => by cases hy) y (by simpa using hy) h1 h2 h3
theorem joinsOf_mem {s : Super} {name : Str} {x : Join} (h : x ∈ joinsOf s name) : x ∈ s.joins ∧ x.ty = name ∧ 0 ≤ x.graph ∧ x.graph < s.graphs.length := by
  rcases joinsR_mem _ _ _ _ _ x h with e | e
  · cases e
  · exact e
theorem roots_eq (s : Super) (name : Str) : ∀ (c i : Nat) (acc : List Spot), i + c = s.graphs.length → rootsP name s.joins i c acc = trootsP (joinsOf s name) i c acc
  | 0, i, acc, h => rfl
  | c + 1, i, acc, h => by
    have e : s.joins.any (rootJ name i) = (joinsOf s name).any fun j => j.graph == i := by
      rw [Bool.eq_iff_iff, List.any_eq_true, List.any_eq_true]
      constructor
      · rintro ⟨y, hy, he⟩
        simp [rootJ] at he
        obtain ⟨x, hx, hs⟩ := joinsOf_cov s name y hy he.1 (by omega) (by omega)
        exact ⟨x, hx, by rw [sameJ_iff] at hs; rw [hs.2.2, he.2]; simp⟩
      · rintro ⟨x, hx, he⟩
        obtain ⟨a, b, _, _⟩ := joinsOf_mem hx
        exact ⟨x, a, by simp at he; simp [rootJ, b, he]⟩
    simp only [rootsP, trootsP, e]
    exact roots_eq s name c (i + 1) _ (by omega)

end

section
variable {n : Nat} {sp : List Spot} {js : List Join} {ks : List KeyO}
theorem Der.mono {sp' : List Spot} {js' : List Join} {ks' : List KeyO} (h1 : ∀ x, x ∈ sp → x ∈ sp') (h2 : ∀ x, x ∈ js → x ∈ js') (h3 : ∀ x, x ∈ ks → x ∈ ks') {x : Fct} {d : Int} (h : Der n sp js ks x d) : Der n sp' js' ks' x d := by
  induction h with
  | spot x hx => exact .spot x (h1 x hx)
  | key k d hk hne _ ih => exact .key k d (h3 k hk) hne ih
  | lj j d hj _ ih => exact .lj j d (h2 j hj) ih
  | lt g d hg _ ih => exact .lt g d hg ih
  | jx j x he hx hg hf => exact .jx j x he (h1 x hx) hg hf
  | j0 j d he hr _ ih => exact .j0 j d he hr ih
  | jr j k d he hr hk hg hne _ _ ih ih' => exact .jr j k d he hr (h3 k hk) hg hne ih ih'
  | up x d e _ hle ih => exact .up x d e ih hle
theorem Der.mapS (m : Spot → Spot) (c : Int) (hm : ∀ x, x ∈ sp → (m x).graph = x.graph ∧ (m x).depth = x.depth + c ∧ (m x).prov = x.prov) {x : Fct} {d : Int} (h : Der n sp js ks x d) : Der n (sp.map m) js ks x (d + c) := by
  induction h with
  | spot x hx =>
    have := Der.spot (n := n) (js := js) (ks := ks) (m x) (List.mem_map_of_mem (f := m) hx)
    rwa [(hm x hx).1, (hm x hx).2.1] at this
  | key k d hk hne _ ih => rw [show d + 1 + c = d + c + 1 by omega]; exact .key k _ hk hne ih
  | lj j d hj _ ih => exact .lj j _ hj ih
  | lt g d hg _ ih => exact .lt g _ hg ih
  | jx j x he hx hg hf =>
    have := Der.jx (n := n) (js := js) (ks := ks) j (m x) he (List.mem_map_of_mem (f := m) hx) (by rw [(hm x hx).1, hg]) (by rw [(hm x hx).2.2]; exact hf)
    rwa [(hm x hx).2.1] at this
  | j0 j d he hr _ ih => exact .j0 j _ he hr ih
  | jr j k d he hr hk hg hne _ _ ih ih' => rw [show d + 1 + c = d + c + 1 by omega]; exact .jr j k _ he hr hk hg hne ih ih'
  | up x d e _ hle ih => exact .up x _ _ ih (by omega)
theorem Der.mapS' (m : Spot → Spot) (c : Int) (hm : ∀ x, x ∈ sp → (m x).graph = x.graph ∧ (m x).depth = x.depth + c ∧ (m x).prov = x.prov) {x : Fct} {d : Int} (h : Der n (sp.map m) js ks x d) : Der n sp js ks x (d - c) := by
  induction h with
  | spot y hy =>
    obtain ⟨x, hx, rfl⟩ := List.mem_map.1 hy
    rw [(hm x hx).1, (hm x hx).2.1, show x.depth + c - c = x.depth by omega]
    exact .spot x hx
  | key k d hk hne _ ih => rw [show d + 1 - c = d - c + 1 by omega]; exact .key k _ hk hne ih
  | lj j d hj _ ih => exact .lj j _ hj ih
  | lt g d hg _ ih => exact .lt g _ hg ih
  | jx j y he hy hg hf =>
    obtain ⟨x, hx, rfl⟩ := List.mem_map.1 hy
    rw [(hm x hx).1] at hg
    rw [(hm x hx).2.2] at hf
    rw [(hm x hx).2.1, show x.depth + c - c = x.depth by omega]
    exact .jx j x he hx hg hf
  | j0 j d he hr _ ih => exact .j0 j _ he hr ih
  | jr j k d he hr hk hg hne _ _ ih ih' => rw [show d + 1 - c = d - c + 1 by omega]; exact .jr j k _ he hr hk hg hne ih ih'
  | up x d e _ hle ih => exact .up x _ _ ih (by omega)
theorem derJ_A {x : Fct} {d : Int} (h : Der n sp js ks x d) : ∀ j, x = .j j → Der n sp js ks (.a j.graph) d := by
  induction h with
  | jx j x he hx hg hf => intro j' e; cases e; rw [← hg]; exact .spot x hx
  | j0 j d he hr hD _ => intro j' e; cases e; exact hD
  | jr j k d he hr hk hg hne hf _ _ _ => intro j' e; cases e; rw [← hg]; exact .key k d hk hne hf
  | up x d e _ hle ih => intro j' e'; exact .up _ _ _ (ih j' e') hle
  | _ => intro j' e; cases e
theorem derL_inv {x : Fct} {d : Int} (h : Der n sp js ks x d) : ∀ f, x = .l f → (∃ j, j ∈ js ∧ j.field = f ∧ Der n sp js ks (.j j) d) ∨ (f = tyN ∧ ∃ g, g < n ∧ Der n sp js ks (.a (g : Nat)) d) := by
  induction h with
  | lj j d hj hD _ => intro f e; cases e; exact Or.inl ⟨j, hj, rfl, hD⟩
  | lt g d hg hD _ => intro f e; cases e; exact Or.inr ⟨rfl, g, hg, hD⟩
  | up x d e _ hle ih =>
    intro f e'
    rcases ih f e' with ⟨j, a, b, c⟩ | ⟨a, g, b, c⟩
    · exact Or.inl ⟨j, a, b, .up _ _ _ c hle⟩
    · exact Or.inr ⟨a, g, b, .up _ _ _ c hle⟩
  | _ => intro f e; cases e
theorem derL_iff (hi : In n sp js ks) (f : Str) (d : Int) : Der n sp js ks (.l f) d ↔ if f = tyN then ∃ g, g < n ∧ Der n sp js ks (.a (g : Nat)) d else ∃ j, j ∈ js ∧ j.field = f ∧ Der n sp js ks (.j j) d := by
  constructor
  · intro h
    rcases derL_inv h f rfl with ⟨j, a, b, c⟩ | ⟨a, g, b, c⟩
    · split
      · have hg := hi.jg j a
        refine ⟨j.graph.toNat, by omega, ?_⟩
        rw [Int.toNat_of_nonneg hg.1]
        exact derJ_A c j rfl
      · exact ⟨j, a, b, c⟩
    · rw [if_pos a]; exact ⟨g, b, c⟩
  · intro h
    split at h
    · next e => obtain ⟨g, a, b⟩ := h; rw [e]; exact .lt g d a b
    · obtain ⟨j, a, b, c⟩ := h; rw [← b]; exact .lj j d a c

/-- the least depth of a field in a list of levels -/
def minL (f : Str) : List Level → Int → Int
  | [], b => b
  | x :: r, b => minL f r (if ((x.field == f) && ((b == 0) || decide (x.depth < b))) = true then x.depth else b)
/-- the least number of a list -/
def minG : List Int → Int → Int
  | [], b => b
  | x :: r, b => minG r (if (decide (x > 0) && ((b == 0) || decide (x < b))) = true then x else b)
theorem q_minL (f : Str) : ∀ (l : List Level) (b : Int), 0 ≤ b → (∀ x, x ∈ l → 1 ≤ x.depth) → 0 ≤ minL f l b ∧ ∀ d, Q (minL f l b) d ↔ Q b d ∨ ∃ x, x ∈ l ∧ x.field = f ∧ Q x.depth d
  | [], b, hb, _ => ⟨hb, fun d => by simp [minL]⟩
  | x :: r, b, hb, hx => by
    have h1 := hx x (List.mem_cons_self ..)
    simp only [minL]
    by_cases hc : ((x.field == f) && ((b == 0) || decide (x.depth < b))) = true
    · rw [if_pos hc]
      simp at hc
      obtain ⟨h3, h4⟩ := q_minL f r x.depth (by omega) (fun y hy => hx y (List.mem_cons_of_mem _ hy))
      refine ⟨h3, fun d => ?_⟩
      rw [h4 d]
      constructor
      · rintro (h | ⟨y, a, c⟩)
        · exact Or.inr ⟨x, List.mem_cons_self .., hc.1, h⟩
        · exact Or.inr ⟨y, List.mem_cons_of_mem _ a, c⟩
      · rintro (h | ⟨y, a, c⟩)
        · refine Or.inl ⟨by omega, ?_⟩
          have := h.1; have := h.2; omega
        · cases a with
          | head => exact Or.inl c.2
          | tail _ a => exact Or.inr ⟨y, a, c⟩
    · rw [if_neg hc]
      obtain ⟨h3, h4⟩ := q_minL f r b hb (fun y hy => hx y (List.mem_cons_of_mem _ hy))
      refine ⟨h3, fun d => ?_⟩
      rw [h4 d]
      constructor
      · rintro (h | ⟨y, a, c⟩)
        · exact Or.inl h
        · exact Or.inr ⟨y, List.mem_cons_of_mem _ a, c⟩
      · rintro (h | ⟨y, a, c⟩)
        · exact Or.inl h
        · cases a with
          | head =>
            simp [c.1] at hc
            have := c.2.2
            exact Or.inl ⟨by omega, by omega⟩
          | tail _ a => exact Or.inr ⟨y, a, c⟩
theorem q_minG : ∀ (l : List Int) (b : Int), 0 ≤ b → 0 ≤ minG l b ∧ ∀ d, Q (minG l b) d ↔ Q b d ∨ ∃ x, x ∈ l ∧ Q x d
  | [], b, hb => ⟨hb, fun d => by simp [minG]⟩
  | x :: r, b, hb => by
    simp only [minG]
    by_cases hc : (decide (x > 0) && ((b == 0) || decide (x < b))) = true
    · rw [if_pos hc]
      simp at hc
      obtain ⟨h3, h4⟩ := q_minG r x (by omega)
      refine ⟨h3, fun d => ?_⟩
      rw [h4 d]
      constructor
      · rintro (h | ⟨y, a, c⟩)
        · exact Or.inr ⟨x, List.mem_cons_self .., h⟩
        · exact Or.inr ⟨y, List.mem_cons_of_mem _ a, c⟩
      · rintro (h | ⟨y, a, c⟩)
        · refine Or.inl ⟨by omega, ?_⟩
          have := h.1; have := h.2; omega
        · cases a with
          | head => exact Or.inl c
          | tail _ a => exact Or.inr ⟨y, a, c⟩
    · rw [if_neg hc]
      obtain ⟨h3, h4⟩ := q_minG r b hb
      refine ⟨h3, fun d => ?_⟩
      rw [h4 d]
      constructor
      · rintro (h | ⟨y, a, c⟩)
        · exact Or.inl h
        · exact Or.inr ⟨y, List.mem_cons_of_mem _ a, c⟩
      · rintro (h | ⟨y, a, c⟩)
        · exact Or.inl h
        · cases a with
          | head =>
            have h1 := c.1; have h2 := c.2
            simp at hc
            have := hc (by omega)
            exact Or.inl ⟨by omega, by omega⟩
          | tail _ a => exact Or.inr ⟨y, a, c⟩
theorem levelsP_mem {F : List (Str × Int)} {A : List Int} : ∀ (l : List Join) (acc : List Level) (x : Level), x ∈ levelsP n sp ks F A l acc ↔ x ∈ acc ∨ ∃ j, j ∈ l ∧ readP n sp ks F A j > 0 ∧ x = ⟨j.field, j.graph, readP n sp ks F A j⟩
  | [], acc, x => by simp [levelsP]
  | j :: r, acc, x => by
    simp only [levelsP]
    rw [levelsP_mem r]
    by_cases h : readP n sp ks F A j > 0
    · rw [if_pos h]
      simp [or_assoc, h]
    · rw [if_neg h]
      simp [h]
theorem least_eq {F : List (Str × Int)} {A : List Int} (hi : In n sp js ks) (h : Ans n sp js ks (fun g => A.getD g 0) (levelP n F A) (readP n sp ks F A)) (hl : n ≤ A.length) (f : Str) :
    (if f = tyN then minG (A.take n) 0 else minL f (levelsP n sp ks F A js []) 0) = levelP n F A f := by
  have hd : ∀ x, x ∈ levelsP n sp ks F A js [] → 1 ≤ x.depth := fun x hx => by
    rcases (levelsP_mem js [] x).1 hx with e | ⟨j, a, b, rfl⟩
    · cases e
    · simp only; omega
  have q1 := q_minG (A.take n) 0 (Int.le_refl 0)
  have q2 := q_minL f (levelsP n sp ks F A js []) 0 (Int.le_refl 0) hd
  have h0 : 0 ≤ (if f = tyN then minG (A.take n) 0 else minL f (levelsP n sp ks F A js []) 0) := by
    split
    · exact q1.1
    · exact q2.1
  refine q_ext h0 (h.nl f) fun d => ?_
  rw [h.ql f d, derL_iff hi]
  split
  · rw [q1.2 d]
    constructor
    · rintro (e | ⟨x, hx, hq⟩)
      · have := e.1; omega
      · obtain ⟨g, hg⟩ := List.mem_iff_getElem?.1 hx
        rw [List.getElem?_take] at hg
        split at hg
        · next hgn =>
          refine ⟨g, hgn, (h.qa g hgn d).1 ?_⟩
          simp only [List.getD_eq_getElem?_getD, hg, Option.getD_some]
          exact hq
        · cases hg
    · rintro ⟨g, hg, hD⟩
      have := (h.qa g hg d).2 hD
      refine Or.inr ⟨_, ?_, this⟩
      rw [List.mem_iff_getElem?]
      refine ⟨g, ?_⟩
      rw [List.getElem?_take, if_pos hg]
      simp [show g < A.length by omega]
  · rw [q2.2 d]
    constructor
    · rintro (e | ⟨x, hx, hf, hq⟩)
      · have := e.1; omega
      · rcases (levelsP_mem js [] x).1 hx with e | ⟨j, a, b, rfl⟩
        · cases e
        · exact ⟨j, a, hf, (h.qj j a d).1 hq⟩
    · rintro ⟨j, a, b, c⟩
      have := (h.qj j a d).2 c
      refine Or.inr ⟨_, (levelsP_mem js [] _).2 (Or.inr ⟨j, a, by have := this.1; omega, rfl⟩), b, this⟩
end

/-- a join twice -/
theorem twiceI_any (x : Join) : ∀ l : List Join, twiceI x l = l.any (sameJ x)
  | [] => rfl
  | y :: r => by simp only [twiceI, List.any_cons, twiceI_any x r]; cases sameJ x y <;> rfl
theorem twice_pw : ∀ (l pre : List Join), twiceP pre l = false → pre.Pairwise (fun a b => ¬ sameJ b a = true) → (pre ++ l).Pairwise (fun a b => ¬ sameJ b a = true)
  | [], pre, _, h => by simpa using h
  | x :: r, pre, h, hp => by
    simp only [twiceP, twiceI_any] at h
    by_cases hx : pre.any (sameJ x) = true
    · rw [if_pos hx] at h; cases h
    · rw [if_neg hx] at h
      have := twice_pw r (pre ++ [x]) h (by
        rw [List.pairwise_append]
        refine ⟨hp, List.pairwise_singleton _ _, fun a ha b hb => ?_⟩
        simp at hb; subst hb
        intro e; exact hx (List.any_eq_true.2 ⟨a, ha, e⟩))
      simpa using this
theorem sameJ_symm (a b : Join) : sameJ a b = sameJ b a := by
  rw [Bool.eq_iff_iff, sameJ_iff, sameJ_iff]
  exact ⟨fun h => ⟨h.1.symm, h.2.1.symm, h.2.2.symm⟩, fun h => ⟨h.1.symm, h.2.1.symm, h.2.2.symm⟩⟩
theorem pw_eq : ∀ {l : List Join}, l.Pairwise (fun a b => ¬ sameJ b a = true) → ∀ x y, x ∈ l → y ∈ l → sameJ x y = true → x = y
  | [], _, x, y, hx, _, _ => by cases hx
  | a :: r, h, x, y, hx, hy, hs => by
    rw [List.pairwise_cons] at h
    cases hx with
    | head =>
      cases hy with
      | head => rfl
      | tail _ hy => exact absurd (by rw [sameJ_symm]; exact hs) (h.1 y hy)
    | tail _ hx =>
      cases hy with
      | head => exact absurd hs (h.1 x hx)
      | tail _ hy => exact pw_eq h.2 x y hx hy hs
theorem joinsOf_iff {s : Super} {name : Str} (h : s.joins.Pairwise (fun a b => ¬ sameJ b a = true)) (x : Join) : x ∈ joinsOf s name ↔ x ∈ s.joins ∧ x.ty = name ∧ 0 ≤ x.graph ∧ x.graph < s.graphs.length := by
  refine ⟨joinsOf_mem, fun ⟨a, b, c, d⟩ => ?_⟩
  obtain ⟨y, hy, hs⟩ := joinsOf_cov s name x a b c d
  rw [← pw_eq h y x (joinsOf_mem hy).1 a hs]; exact hy
theorem keys0_iff (n : Nat) (name : Str) : ∀ (l acc : List KeyO) (x : KeyO), x ∈ keys0 n name l acc ↔ x ∈ acc ∨ (x ∈ l ∧ ink n name x = true)
  | [], acc, x => by simp [keys0]
  | j :: r, acc, x => by
    simp only [keys0]
    split
    · next hb =>
      rw [keys0_iff n name r]
      constructor
      · rintro (h | h)
        · rcases List.mem_append.1 h with h | h
          · exact Or.inl h
          · simp at h; subst h; exact Or.inr ⟨List.mem_cons_self .., hb⟩
        · exact Or.inr ⟨List.mem_cons_of_mem _ h.1, h.2⟩
      · rintro (h | ⟨h, hh⟩)
        · exact Or.inl (List.mem_append_left _ h)
        · cases h with
          | head => exact Or.inl (by simp)
          | tail _ h => exact Or.inr ⟨h, hh⟩
    · next hb =>
      rw [keys0_iff n name r]
      constructor
      · rintro (h | h)
        · exact Or.inl h
        · exact Or.inr ⟨List.mem_cons_of_mem _ h.1, h.2⟩
      · rintro (h | ⟨h, hh⟩)
        · exact Or.inl h
        · cases h with
          | head => exact absurd hh hb
          | tail _ h => exact Or.inr ⟨h, hh⟩
/-- everything the other way round -/
def Super.rev (s : Super) : Super := { graphs := s.graphs, doc := .lst [], keys := s.keys.reverse, joins := s.joins.reverse }
theorem Small.rev {s : Super} {here : List Spot} (h : Small s here) : Small s.rev here.reverse where
  g := h.g
  j := by have := h.j; simpa [Super.rev] using this
  k := by have := h.k; simpa [Super.rev] using this
  h := by have := h.h; simpa using this
  jr := fun j hj => h.jr j (by simpa [Super.rev] using hj)
  kf := fun k hk => h.kf k (by simpa [Super.rev] using hk)
  ho := fun x hx => h.ho x (by simpa using hx)
theorem der_rev {s : Super} {name : Str} {here : List Spot} (hp : s.joins.Pairwise (fun a b => ¬ sameJ b a = true)) (x : Fct) (d : Int) :
    Der s.graphs.length (spotsOf s.graphs.length here) (joinsOf s name) (keysOf s name) x d ↔ Der s.rev.graphs.length (spotsOf s.rev.graphs.length here.reverse) (joinsOf s.rev name) (keysOf s.rev name) x d := by
  have hp' : s.rev.joins.Pairwise (fun a b => ¬ sameJ b a = true) := by
    simp only [Super.rev]
    rw [List.pairwise_reverse]
    exact hp.imp fun {a b} h e => h (by rw [sameJ_symm]; exact e)
  have h1 : ∀ x, x ∈ spotsOf s.graphs.length here ↔ x ∈ spotsOf s.rev.graphs.length here.reverse := fun x => by
    simp [spotsOf, List.mem_filter, Super.rev]
  have h2 : ∀ x, x ∈ joinsOf s name ↔ x ∈ joinsOf s.rev name := fun x => by
    rw [joinsOf_iff hp, joinsOf_iff hp']; simp [Super.rev]
  have h3 : ∀ x, x ∈ keysOf s name ↔ x ∈ keysOf s.rev name := fun x => by
    rw [keys0_iff, keys0_iff]; simp [Super.rev]
  exact ⟨Der.mono (fun x => (h1 x).1) (fun x => (h2 x).1) (fun x => (h3 x).1), Der.mono (fun x => (h1 x).2) (fun x => (h2 x).2) (fun x => (h3 x).2)⟩

/-- one later -/
def Spot.inc (x : Spot) : Spot := { x with depth := x.depth + 1 }
theorem spotsOf_inc (n : Nat) : ∀ (l : List Spot), (∀ x, x ∈ l → 1 ≤ x.depth ∧ x.depth < 1099511627776) → spotsOf n (l.map Spot.inc) = (spotsOf n l).map Spot.inc
  | [], h => rfl
  | x :: r, h => by
    have h1 := h x (List.mem_cons_self ..)
    have ih := spotsOf_inc n r (fun y hy => h y (List.mem_cons_of_mem _ hy))
    have e : inb n x.inc = inb n x := by
      rw [Bool.eq_iff_iff, inb_iff, inb_iff]; simp only [Spot.inc]; omega
    simp only [spotsOf, List.map_cons, List.filter_cons, e] at ih ⊢
    split <;> simp [ih]
end Go.GB.C26

/-
  R26N: the law ReachGraphs, from what solve and fill find.
-/
namespace Go.GB.C26
open Go.GB
set_option linter.unusedSimpArgs false
set_option linter.unusedVariables false
set_option maxRecDepth 100000
set_option maxHeartbeats 1000000
variable {P : Program}

theorem reachGraphs_ok (H : Pr P) (hex : FnOk P 10 [] ⟨[], 0⟩ { v := .t (.bool true) }) (s : Super) (name : Str) (here : List Spot)
    (hs : largeP s here = false → ∃ sp js ks F A sp' js' ks' D A', Sol s name here sp js ks F A ∧ Fil s name here sp' js' ks' D A' ∧ A.take s.graphs.length = A' ∧ A.length ≤ 100000) :
    FnOk P 3 [s.v, .t (.str name), .t (.lst (here.map Spot.enc))] ⟨[], 0⟩ { v := .t (.bool true) } := by
  refine FnOk.run H.i3 H.mixed rfl rfl ?_
  refine fR rfl ?_
  refine Mid.call (large_ok H s here) rfl rfl rfl rfl ?_
  refine fM rfl ?_
  refine Run.cond rfl rfl (fun h => ?_) (fun h => ?_)
  · refine fR rfl ?_
    refine Mid.call (hex) rfl rfl rfl rfl ?_
    refine fM rfl ?_
    refine Run.fin rfl (EndOk.go ?_); exact .t rfl
  · obtain ⟨sp, js, ks, F, A, sp', js', ks', D, A', h1, h2, h3, h4⟩ := hs h
    refine fR rfl ?_
    refine Mid.call (graphs_ok H h1) rfl rfl rfl rfl ?_
    refine fM rfl ?_
    refine Mid.call (rGraphs_ok H h2) rfl rfl rfl rfl ?_
    skip
    refine Mid.call (numbers_ok H (A.take s.graphs.length) A' (by simp; omega) (by rw [← h3]; simp; omega)) rfl rfl rfl rfl ?_
    refine fM rfl ?_
    refine caG rfl rfl (fun hg => ⟨_, rfl, hex, rfl⟩) rfl rfl ?_
    refine fM rfl ?_
    refine Run.fin rfl (EndOk.go ?_); exact .t (by simp [h3])
end Go.GB.C26

/-
  R26O: the law's example.
-/
namespace Go.GB.C26
open Go.GB
set_option linter.unusedSimpArgs false
set_option linter.unusedVariables false
set_option maxRecDepth 100000
set_option maxHeartbeats 1000000
variable {P : Program}

def idS : Str := [105, 100]
def userS : Str := [85, 115, 101, 114]
def exS : Super :=
  { graphs := [[97], [98]], doc := .lst [], keys := [⟨userS, 0, [idS]⟩, ⟨userS, 1, [idS]⟩],
    joins := [⟨[81, 117, 101, 114, 121], [109, 101], 0, false, [], []⟩, ⟨userS, idS, 0, false, [], []⟩, ⟨userS, [110, 97, 109, 101], 0, false, [], []⟩, ⟨userS, idS, 1, false, [], []⟩, ⟨userS, [112, 111, 115, 116, 115], 1, false, [], []⟩] }
theorem example_ok (H : Pr P) : FnOk P 24 [] ⟨[], 0⟩ { v := .agg [.t (.lst (exS.graphs.map sE)), .t exS.doc, .t (.lst (exS.keys.map KeyO.enc)), .t (.lst (exS.joins.map Join.enc))] } := by
  refine FnOk.run H.i24 H.mixed rfl rfl ?_
  refine fR rfl ?_
  refine Run.fin rfl (EndOk.go ?_)
  exact .agg (.cons (.own rfl) (.cons (.nil rfl) (.cons (.own rfl) (.cons (.own rfl) .nil))))
end Go.GB.C26

/-
  R26X: the example holds; the laws of chapter 26: ReachLevels, ReachGets.
-/
namespace Go.GB.C26
open Go.GB
set_option linter.unusedSimpArgs false
set_option linter.unusedVariables false
set_option maxRecDepth 100000
set_option maxHeartbeats 1000000
variable {P : Program}

def exH : List Spot := [⟨0, 1, []⟩]
def nameS : Str := [110, 97, 109, 101]
def postsS : Str := [112, 111, 115, 116, 115]
def queryS : Str := [81, 117, 101, 114, 121]
theorem ex_sol : Sol exS userS exH exH [⟨userS, idS, 0, false, [], []⟩, ⟨userS, nameS, 0, false, [], []⟩, ⟨userS, idS, 1, false, [], []⟩, ⟨userS, postsS, 1, false, [], []⟩] [⟨userS, 0, [idS]⟩, ⟨userS, 1, [idS]⟩] [(idS, 1), (nameS, 1), (postsS, 2)] [1, 2, 0, 0, 0, 0, 0, 0] := by
  have hN : ∀ A : List Int, A.length = 8 → NOk exS exH [⟨userS, idS, 0, false, [], []⟩, ⟨userS, nameS, 0, false, [], []⟩, ⟨userS, idS, 1, false, [], []⟩, ⟨userS, postsS, 1, false, [], []⟩] [⟨userS, 0, [idS]⟩, ⟨userS, 1, [idS]⟩] 1 A := by
    intro A hA
    refine ⟨by decide, by decide, hA, by decide, by decide, by decide, ?_, ?_, ?_⟩
    · simp [exH, Spot.ok]
    · simp [Join.ok]
    · simp [KeyO.ok]
  refine ⟨by decide, by decide, by decide, by decide, by rfl, by rfl, ⟨[1, 0, 0, 0, 0, 0, 0, 0], 4, by rfl, hN _ rfl, ?_, by rfl⟩, hN _ rfl⟩
  exact fun _ _ h => absurd h (by decide)

theorem exampleHolds_ok (H : Pr P) : FnOk P 10 [] ⟨[], 0⟩ { v := .t (.bool true) } := by
  refine FnOk.run H.i10 H.mixed rfl rfl ?_
  refine fR rfl ?_
  refine Mid.call (example_ok H) rfl rfl rfl rfl ?_
  refine fM rfl ?_
  refine Mid.call (get_ok H ex_sol postsS) rfl rfl rfl rfl ?_
  refine fM rfl ?_
  refine caG rfl rfl (fun hg => ⟨_, rfl, roots_ok H exS queryS (by decide) (by decide), rfl⟩) rfl rfl ?_
  refine fM rfl ?_
  refine Mid.effG rfl (by decide) rfl ?_
  skip
  refine caG rfl rfl (fun hg => ⟨_, rfl, spotsEq_ok H (rootsP queryS exS.joins 0 exS.graphs.length []) [⟨0, 1, []⟩] (by decide) (by decide), rfl⟩) rfl rfl ?_
  refine fM rfl ?_
  refine Run.fin rfl (EndOk.go ?_); exact .t (congrArg T.bool (by decide))

theorem reachGraphs (H : Pr P) (s : Super) (name : Str) (here : List Spot) (ho : ∀ x, x ∈ here → x.ok) : FnOk P 3 [s.v, .t (.str name), .t (.lst (here.map Spot.enc))] ⟨[], 0⟩ { v := .t (.bool true) } := by
  refine reachGraphs_ok H (exampleHolds_ok H) s name here fun hl => ?_
  have hS := small_of hl ho
  have hg := hS.g
  obtain ⟨F, A, a1, a2, a3, a4⟩ := sol_ex (name := name) hS
  obtain ⟨D, A', b1, b2⟩ := fil_ex (name := name) hS
  exact ⟨_, _, _, F, A, _, _, _, D, A', a1, b1, graphs_eq a2 b2 (by omega) b1.hA1, by omega⟩

theorem read_D {s : Super} {name : Str} {here : List Spot} {F : List (Str × Int)} {A D A' : List Int} {l l' : Str → Int}
    (h : Ans s.graphs.length (spotsOf s.graphs.length here) (joinsOf s name) (keysOf s name) (fun g => A.getD g 0) l (readP s.graphs.length (spotsOf s.graphs.length here) (keysOf s name) F A))
    (h' : Ans s.graphs.length (spotsOf s.graphs.length here) (joinsOf s name) (keysOf s name) (fun g => A'.getD g 0) l' (fun j => D.getD (posJ (joinsOf s name) j) 0)) (k : Nat) (j : Join) (hk : (joinsOf s name)[k]? = some j) :
    readP s.graphs.length (spotsOf s.graphs.length here) (keysOf s name) F A j = D.getD k 0 := by
  have := h.eqJ h' j (List.mem_of_getElem? hk)
  rw [this, posJ_at (joinsOf_nodup s name) hk]

theorem levelsP_len {n : Nat} {sp : List Spot} {ks : List KeyO} {F : List (Str × Int)} {A : List Int} : ∀ (l : List Join) (acc : List Level), (levelsP n sp ks F A l acc).length ≤ acc.length + l.length
  | [], acc => by simp [levelsP]
  | j :: r, acc => by
    simp only [levelsP]
    refine Nat.le_trans (levelsP_len r _) ?_
    split <;> simp <;> omega

theorem reachLevels (H : Pr P) (s : Super) (name : Str) (here : List Spot) (ho : ∀ x, x ∈ here → x.ok) : FnOk P 6 [s.v, .t (.str name), .t (.lst (here.map Spot.enc))] ⟨[], 0⟩ { v := .t (.bool true) } := by
  refine FnOk.run H.i6 H.mixed rfl rfl ?_
  refine fR rfl ?_
  refine Mid.call (large_ok H s here) rfl rfl rfl rfl ?_
  refine fM rfl ?_
  refine Run.cond rfl rfl (fun h => ?_) (fun h => ?_)
  · refine fR rfl ?_
    refine Mid.call (exampleHolds_ok H) rfl rfl rfl rfl ?_
    refine fM rfl ?_
    refine Run.fin rfl (EndOk.go ?_); exact .t rfl
  · have hS := small_of (show largeP s here = false from h) ho
    obtain ⟨F, A, a1, a2, a3, a4⟩ := sol_ex (name := name) hS
    obtain ⟨D, A', b1, b2⟩ := fil_ex (name := name) hS
    have hlev : levelsP s.graphs.length (spotsOf s.graphs.length here) (keysOf s name) F A (joinsOf s name) [] = tlevels D 0 (joinsOf s name) [] :=
      levels_eq (joinsOf s name) 0 [] fun k j hk => by rw [Nat.zero_add]; exact read_D a2 b2 k j hk
    have hll := levelsP_len (n := s.graphs.length) (sp := spotsOf s.graphs.length here) (ks := keysOf s name) (F := F) (A := A) (joinsOf s name) []
    have hjl := joinsOf_len s name
    have hj := hS.j
    simp only [List.length_nil, Nat.zero_add] at hll
    refine fR rfl ?_
    refine Mid.call (levels_ok H a1) rfl rfl rfl rfl ?_
    refine fM rfl ?_
    refine Mid.call (rLevels_ok H b1) rfl rfl rfl rfl ?_
    refine fM rfl ?_
    refine lM rfl rfl rfl ?_
    refine fM rfl ?_
    refine lM rfl rfl rfl ?_
    refine fM rfl ?_
    rw [← hlev]
    generalize levelsP s.graphs.length (spotsOf s.graphs.length here) (keysOf s name) F A (joinsOf s name) [] = L at hll
    refine Run.cond rfl rfl (fun h2 => ?_) (fun h2 => ?_)
    · simp at h2
    · refine fR rfl ?_
      refine rList L (fun i (_ : Unit) => { env := [(7, .t (.lst (L.map Level.enc))), (8, .t (.lst (L.map Level.enc))), (9, .t (.int .i64 i))], s := ⟨[], 0⟩ }) (fun r i _ => True) 0 () rfl trivial rfl rfl rfl ?_ ?_
      · intro _ _
        refine fR rfl ?_
        refine lM rfl rfl rfl ?_
        refine fM rfl ?_
        refine Run.condF rfl rfl (by simp) ?_
        refine fR rfl ?_
        refine Mid.call (exampleHolds_ok H) rfl rfl rfl rfl ?_
        refine fM rfl ?_
        refine Run.fin rfl (EndOk.go ?_); exact .t rfl
      · intro i x r _ h1 hi hd _ ih
        refine fR rfl ?_
        refine lM rfl rfl rfl ?_
        refine fM rfl ?_
        refine Run.condT rfl rfl (by simp; omega) ?_
        refine fR rfl ?_
        refine Mid.elemMap rfl rfl rfl h1 rfl rfl ?_
        refine fM rfl ?_
        refine Mid.elemMap rfl rfl rfl h1 rfl rfl ?_
        refine fM rfl ?_
        refine elG rfl rfl rfl rfl h1 rfl rfl ?_
        refine fM rfl ?_
        refine elG rfl rfl rfl rfl h1 rfl rfl ?_
        refine fM rfl ?_
        refine elG rfl rfl rfl rfl h1 rfl rfl ?_
        refine fM rfl ?_
        refine elG rfl rfl rfl rfl h1 rfl rfl ?_
        refine fM rfl ?_
        refine Run.condF rfl rfl (by simp) ?_
        refine fR rfl ?_
        refine aL rfl rfl rfl rfl rfl ?_
        refine fM rfl ?_
        exact rWeak 0 rfl (ih () trivial) rfl rfl rfl

theorem childP_all {n : Nat} {sp : List Spot} {ks : List KeyO} {F : List (Str × Int)} {A : List Int} (f : Str) (g : Int) : ∀ (l : List Join) (acc : List Spot), (∀ j, j ∈ l → j.prov.length ≤ 100) → (∀ x, x ∈ acc → x.prov.length ≤ 100) → ∀ x, x ∈ childP n sp ks F A f g l acc → x.prov.length ≤ 100
  | [], acc, _, h, x, hx => h x hx
  | j :: r, acc, hl, h, x, hx => by
    simp only [childP] at hx
    refine childP_all f g r _ (fun y hy => hl y (List.mem_cons_of_mem _ hy)) (fun y hy => ?_) x hx
    split at hy
    · exact h y hy
    · split at hy
      · rcases List.mem_append.1 hy with hy | hy
        · exact h y hy
        · simp at hy; subst hy; exact hl j (List.mem_cons_self ..)
      · exact h y hy
theorem childG_all {n : Nat} {sp : List Spot} {js : List Join} {ks : List KeyO} {F : List (Str × Int)} {A : List Int} (f : Str) (hj : ∀ j, j ∈ js → j.prov.length ≤ 100) : ∀ (c i : Nat) (acc : List Spot), (∀ x, x ∈ acc → x.prov.length ≤ 100) → (∀ x, x ∈ childG n sp js ks F A f i c acc → x.prov.length ≤ 100) ∧ (childG n sp js ks F A f i c acc).length ≤ acc.length + c * js.length
  | 0, i, acc, h => ⟨h, by simp [childG]⟩
  | c + 1, i, acc, h => by
    have h1 := childP_all (n := n) (sp := sp) (ks := ks) (F := F) (A := A) f i js acc hj h
    have h2 := childP_len n sp ks F A f i js acc
    obtain ⟨h3, h4⟩ := childG_all (n := n) (sp := sp) (js := js) (ks := ks) (F := F) (A := A) f hj c (i + 1) _ h1
    refine ⟨h3, ?_⟩
    simp only [childG]
    rw [Nat.succ_mul]; omega
theorem rootsP_all (name : Str) (js : List Join) : ∀ (c i : Nat) (acc : List Spot), (∀ x, x ∈ acc → x.prov.length ≤ 100) → (∀ x, x ∈ rootsP name js i c acc → x.prov.length ≤ 100) ∧ (rootsP name js i c acc).length ≤ acc.length + c
  | 0, i, acc, h => ⟨h, by simp [rootsP]⟩
  | c + 1, i, acc, h => by
    obtain ⟨h3, h4⟩ := rootsP_all name js c (i + 1) (if js.any (rootJ name i) = true then acc ++ [⟨i, 1, []⟩] else acc) (fun x hx => by
      split at hx
      · rcases List.mem_append.1 hx with hx | hx
        · exact h x hx
        · simp at hx; subst hx; simp
      · exact h x hx)
    refine ⟨h3, ?_⟩
    simp only [rootsP]
    refine Nat.le_trans h4 ?_
    split <;> simp <;> omega

structure Ask where
  name : Str
  here : List Spot
  field : Str
def Ask.v (q : Ask) : V := .agg [.t (.str q.name), .t (.lst (q.here.map Spot.enc)), .t (.str q.field)]

theorem reachGets (H : Pr P) (s : Super) (q : Ask) (ho : ∀ x, x ∈ q.here → x.ok) : FnOk P 8 [s.v, q.v] ⟨[], 0⟩ { v := .t (.bool true) } := by
  refine FnOk.run H.i8 H.mixed rfl rfl ?_
  refine fR rfl ?_
  refine Mid.call (large_ok H s q.here) rfl rfl rfl rfl ?_
  refine fM rfl ?_
  refine Run.cond rfl rfl (fun h => ?_) (fun h => ?_)
  · refine fR rfl ?_
    refine Mid.call (exampleHolds_ok H) rfl rfl rfl rfl ?_
    refine fM rfl ?_
    refine Run.fin rfl (EndOk.go ?_); exact .t rfl
  · have hS := small_of (show largeP s q.here = false from h) ho
    obtain ⟨F, A, a1, a2, a3, a4⟩ := sol_ex (name := q.name) hS
    obtain ⟨D, A', b1, b2⟩ := fil_ex (name := q.name) hS
    have hg := hS.g
    have hj := hS.j
    have hk := hS.k
    have hjl := joinsOf_len s q.name
    have e1 : levelP s.graphs.length F A q.field = tlevel s.graphs.length (joinsOf s q.name) D A' q.field := a2.eqL b2 q.field
    have e2 := childG_eq (sp := spotsOf s.graphs.length q.here) (js := joinsOf s q.name) (ks := keysOf s q.name) (n := s.graphs.length) (F := F) (A := A) (D := D) q.field (fun k j hk => read_D a2 b2 k j hk) s.graphs.length 0 []
    have e3 := roots_eq s q.name s.graphs.length 0 [] (by omega)
    obtain ⟨c1, c2⟩ := childG_all (n := s.graphs.length) (sp := spotsOf s.graphs.length q.here) (js := joinsOf s q.name) (ks := keysOf s q.name) (F := F) (A := A) q.field (fun j hj => by have := joinsOf_small hS hj; omega) s.graphs.length 0 [] (fun x hx => by cases hx)
    obtain ⟨d1, d2⟩ := rootsP_all q.name s.joins s.graphs.length 0 [] (fun x hx => by cases hx)
    have c3 : s.graphs.length * (joinsOf s q.name).length ≤ 10 * 120 := Nat.mul_le_mul hg (by omega)
    simp only [List.length_nil, Nat.zero_add] at c2 d2
    refine fR rfl ?_
    refine Mid.call (get_ok H a1 q.field) rfl rfl rfl rfl ?_
    refine fM rfl ?_
    refine Mid.call (rGet_ok H b1 q.field) rfl rfl rfl rfl ?_
    refine fM rfl ?_
    refine caG rfl rfl (fun hg => ⟨_, rfl, child_ok H a1 (by omega) q.field, rfl⟩) rfl rfl ?_
    refine fM rfl ?_
    refine caG rfl rfl (fun hg => ⟨_, rfl, rChild_ok H b1 (by omega) (fun j hj => by have := joinsOf_small hS hj; omega) q.field, rfl⟩) rfl rfl ?_
    skip
    refine caG rfl rfl (fun hg => ⟨_, rfl, spotsEq_ok H _ _ (by omega) (fun x hx => by have := c1 x hx; omega), rfl⟩) rfl rfl ?_
    refine fM rfl ?_
    refine caG rfl rfl (fun hg => ⟨_, rfl, roots_ok H s q.name (by omega) (by omega), rfl⟩) rfl rfl ?_
    refine fM rfl ?_
    refine caG rfl rfl (fun hg => ⟨_, rfl, rRoots_ok H s q.name _ _ (by omega) (by omega) (by omega) rfl rfl (Nat.le_trans hjl (by omega)), rfl⟩) rfl rfl ?_
    skip
    refine caG rfl rfl (fun hg => ⟨_, rfl, spotsEq_ok H _ _ (by omega) (fun x hx => by have := d1 x hx; omega), rfl⟩) rfl rfl ?_
    refine fM rfl ?_
    refine caG rfl rfl (fun hg => ⟨_, rfl, exampleHolds_ok H, rfl⟩) rfl rfl ?_
    refine fM rfl ?_
    refine Run.fin rfl (EndOk.go ?_); exact .t (by rw [e1, e2, e3]; simp)
end Go.GB.C26

/-
  R26Y: the laws of chapter 26: ReachLeast, ReachGrows.
-/
namespace Go.GB.C26
open Go.GB
set_option linter.unusedSimpArgs false
set_option linter.unusedVariables false
set_option maxRecDepth 100000
set_option maxHeartbeats 1000000
variable {P : Program}

theorem reachLeast (H : Pr P) (s : Super) (q : Ask) (ho : ∀ x, x ∈ q.here → x.ok) : FnOk P 7 [s.v, q.v] ⟨[], 0⟩ { v := .t (.bool true) } := by
  refine FnOk.run H.i7 H.mixed rfl rfl ?_
  refine fR rfl ?_
  refine Mid.call (large_ok H s q.here) rfl rfl rfl rfl ?_
  refine fM rfl ?_
  refine Run.cond rfl rfl (fun h => ?_) (fun h => ?_)
  · refine fR rfl ?_
    refine Mid.call (exampleHolds_ok H) rfl rfl rfl rfl ?_
    refine fM rfl ?_
    refine Run.fin rfl (EndOk.go ?_); exact .t rfl
  · have hS := small_of (show largeP s q.here = false from h) ho
    obtain ⟨F, A, a1, a2, a3, a4⟩ := sol_ex (name := q.name) hS
    have hg := hS.g
    have hj := hS.j
    have hjl := joinsOf_len s q.name
    have hll := levelsP_len (n := s.graphs.length) (sp := spotsOf s.graphs.length q.here) (ks := keysOf s q.name) (F := F) (A := A) (joinsOf s q.name) []
    have hle := least_eq (inOf (name := q.name) hS) a2 (by omega) q.field
    have hpos : ∀ x, x ∈ levelsP s.graphs.length (spotsOf s.graphs.length q.here) (keysOf s q.name) F A (joinsOf s q.name) [] → 1 ≤ x.depth := fun x hx => by
      rcases (levelsP_mem _ [] x).1 hx with e | ⟨j, a, b, rfl⟩
      · cases e
      · simp only; omega
    simp only [List.length_nil, Nat.zero_add] at hll
    have hlv := levels_ok H a1
    have hgr := graphs_ok H a1
    have hgt := get_ok H a1 q.field
    generalize levelsP s.graphs.length (spotsOf s.graphs.length q.here) (keysOf s q.name) F A (joinsOf s q.name) [] = L at hll hle hpos hlv
    generalize levelP s.graphs.length F A q.field = m at hle hgt
    have hGl : (A.take s.graphs.length).length ≤ 10 := by simp; omega
    generalize A.take s.graphs.length = G at hle hgr hGl
    refine fR rfl ?_
    refine Mid.call (hlv) rfl rfl rfl rfl ?_
    refine fM rfl ?_
    refine rList L (fun i (b : Int) => { env := [(2, .ptr 0 0), (3, .ptr 1 0), (5, .t (.int .i64 b)), (6, .t (.lst (L.map Level.enc))), (7, .t (.int .i64 i))], s := ⟨[(0, .cells [.t (.lst (s.graphs.map sE)), .t s.doc, .t (.lst (s.keys.map KeyO.enc)), .t (.lst (s.joins.map Join.enc))]), (1, .cells [.t (.str q.name), .t (.lst (q.here.map Spot.enc)), .t (.str q.field)])], 2⟩ }) (fun r i b => minL q.field L 0 = minL q.field r b) 2 0 rfl rfl rfl rfl rfl ?_ ?_
    · intro b hinv
      have hb : minL q.field L 0 = b := by rw [hinv]; rfl
      refine fR rfl ?_
      refine lM rfl rfl rfl ?_
      refine fM rfl ?_
      refine Run.condF rfl rfl (by simp) ?_
      refine fR rfl ?_
      refine Run.cond rfl rfl (fun hf => ?_) (fun hf => ?_)
      · have hf' : q.field = tyN := by simpa [tyN] using hf
        rw [if_pos hf'] at hle
        refine fR rfl ?_
        refine Mid.call (hgr) rfl rfl rfl rfl ?_
        refine fM rfl ?_
        refine rList G (fun i (b : Int) => { env := [(2, .ptr 0 0), (3, .ptr 1 0), (5, .t (.int .i64 b)), (8, .t (.lst (G.map fun x => [iE x]))), (9, .t (.int .i64 i))], s := ⟨[(0, .cells [.t (.lst (s.graphs.map sE)), .t s.doc, .t (.lst (s.keys.map KeyO.enc)), .t (.lst (s.joins.map Join.enc))]), (1, .cells [.t (.str q.name), .t (.lst (q.here.map Spot.enc)), .t (.str q.field)])], 2⟩ }) (fun r i b => minG G 0 = minG r b) 2 0 rfl rfl rfl rfl rfl ?_ ?_
        · intro b hinv
          have hb : minG G 0 = b := by rw [hinv]; rfl
          refine fR rfl ?_
          refine lM rfl rfl rfl ?_
          refine fM rfl ?_
          refine Run.condF rfl rfl (by simp) ?_
          refine fR rfl ?_
          refine Mid.call (hgt) rfl rfl rfl rfl ?_
          refine fM rfl ?_
          refine caG rfl rfl (fun hg => ⟨_, rfl, exampleHolds_ok H, rfl⟩) rfl rfl ?_
          refine fM rfl ?_
          refine Run.fin rfl (EndOk.go ?_); exact .t (by rw [← hle, hb]; simp)
        · intro i x r b h1 hi hd hinv ih
          refine fR rfl ?_
          refine lM rfl rfl rfl ?_
          refine fM rfl ?_
          refine Run.condT rfl rfl (by simp; omega) ?_
          refine fR rfl ?_
          refine Mid.elemMap rfl rfl rfl h1 rfl rfl ?_
          refine fM rfl ?_
          refine elG rfl rfl rfl rfl h1 rfl rfl ?_
          refine fM rfl ?_
          refine Run.cond rfl rfl (fun hc => ?_) (fun hc => ?_)
          · refine fR rfl ?_
            refine Mid.elemMap rfl rfl rfl h1 rfl rfl ?_
            refine fM rfl ?_
            refine aL rfl rfl rfl rfl rfl ?_
            refine fM rfl ?_
            have hc2 : (decide (x > 0) && ((b == 0) || decide (x < b))) = true := hc
            exact rWeak 2 rfl (ih x (by rw [hinv]; simp only [minG]; rw [if_pos hc2])) rfl rfl rfl
          · refine fR rfl ?_
            refine aL rfl rfl rfl rfl rfl ?_
            refine fM rfl ?_
            have hc2 : ¬ (decide (x > 0) && ((b == 0) || decide (x < b))) = true := by
              rw [show (decide (x > 0) && ((b == 0) || decide (x < b))) = false from hc]; simp
            exact rWeak 2 rfl (ih b (by rw [hinv]; simp only [minG]; rw [if_neg hc2])) rfl rfl rfl
      · have hf' : ¬ q.field = tyN := by
          intro e; rw [e] at hf; revert hf; decide
        rw [if_neg hf'] at hle
        refine fR rfl ?_
        refine Mid.call (hgt) rfl rfl rfl rfl ?_
        refine fM rfl ?_
        refine caG rfl rfl (fun hg => ⟨_, rfl, exampleHolds_ok H, rfl⟩) rfl rfl ?_
        refine fM rfl ?_
        refine Run.fin rfl (EndOk.go ?_); exact .t (by rw [← hle, hb]; simp)
    · intro i x r b h1 hi hd hinv ih
      have hx := hpos x (List.mem_of_getElem? h1)
      refine fR rfl ?_
      refine lM rfl rfl rfl ?_
      refine fM rfl ?_
      refine Run.condT rfl rfl (by simp; omega) ?_
      refine fR rfl ?_
      refine Mid.elemMap rfl rfl rfl h1 rfl rfl ?_
      refine fM rfl ?_
      refine Run.condF rfl rfl (by simp; omega) ?_
      refine fR rfl ?_
      refine Mid.elemMap rfl rfl rfl h1 rfl rfl ?_
      refine fM rfl ?_
      refine elG rfl rfl rfl rfl h1 rfl rfl ?_
      refine fM rfl ?_
      refine Run.cond rfl rfl (fun hc => ?_) (fun hc => ?_)
      · refine fR rfl ?_
        refine Mid.elemMap rfl rfl rfl h1 rfl rfl ?_
        refine fM rfl ?_
        refine aL rfl rfl rfl rfl rfl ?_
        refine fM rfl ?_
        have hc2 : ((x.field == q.field) && ((b == 0) || decide (x.depth < b))) = true := hc
        exact rWeak 2 rfl (ih x.depth (by rw [hinv]; simp only [minL]; rw [if_pos hc2])) rfl rfl rfl
      · refine fR rfl ?_
        refine aL rfl rfl rfl rfl rfl ?_
        refine fM rfl ?_
        have hc2 : ¬ ((x.field == q.field) && ((b == 0) || decide (x.depth < b))) = true := by
          rw [show ((x.field == q.field) && ((b == 0) || decide (x.depth < b))) = false from hc]; simp
        exact rWeak 2 rfl (ih b (by rw [hinv]; simp only [minL]; rw [if_neg hc2])) rfl rfl rfl

theorem getD_take {A : List Int} {n i : Nat} (h : i < n) : (A.take n).getD i 0 = A.getD i 0 := by
  simp [List.getD_eq_getElem?_getD, List.getElem?_take, h]
/-- the law's comparison at a graph -/
def growBad (a b c : Int) : Bool := (decide (a > 0) && (decide (b < 1) || decide (b > a) || !(c == IntKind.i64.wrap (a + 1)))) || ((a == 0) && !(c == 0))
theorem reachGrows (H : Pr P) (s : Super) (q : Ask) (more : List Spot) (ho : ∀ x, x ∈ q.here → x.ok) (ho2 : ∀ x, x ∈ more → x.ok) : FnOk P 4 [s.v, q.v, .t (.lst (more.map Spot.enc))] ⟨[], 0⟩ { v := .t (.bool true) } := by
  refine FnOk.run H.i4 H.mixed rfl rfl ?_
  refine fR rfl ?_
  refine Mid.call (large_ok H s q.here) rfl rfl rfl rfl ?_
  refine fM rfl ?_
  refine lMG rfl rfl rfl rfl ?_
  refine fM rfl ?_
  refine Run.cond rfl rfl (fun h => ?_) (fun h => ?_)
  · refine fR rfl ?_
    refine Mid.call (exampleHolds_ok H) rfl rfl rfl rfl ?_
    refine fM rfl ?_
    refine Run.fin rfl (EndOk.go ?_); exact .t rfl
  · have h' : largeP s q.here = false ∧ more.length ≤ 20 := by
      simp at h; exact ⟨h.1, by omega⟩
    obtain ⟨hl, hm⟩ := h'
    have hS := small_of hl ho
    have hh : q.here.length ≤ 40 := by
      simp only [largeP, big0, Bool.or_eq_false_iff, decide_eq_false_iff_not] at hl; omega
    have hg := hS.g
    have hSa : Small s (q.here ++ more) := ⟨hS.g, hS.j, hS.k, by simp; omega, hS.jr, hS.kf, fun x hx => by
      rcases List.mem_append.1 hx with hx | hx
      · exact ho x hx
      · exact ho2 x hx⟩
    have hSl : Small s (q.here.map Spot.inc) := ⟨hS.g, hS.j, hS.k, by simp; omega, hS.jr, hS.kf, fun x hx => by
      obtain ⟨y, hy, rfl⟩ := List.mem_map.1 hx
      exact ho y hy⟩
    obtain ⟨F, A, a1, a2, a3, a4⟩ := sol_ex (name := q.name) hS
    obtain ⟨F2, B, b1, b2, b3, b4⟩ := sol_ex (name := q.name) hSa
    obtain ⟨F3, C, c1, c2, c3, c4⟩ := sol_ex (name := q.name) hSl
    have hmono : ∀ {x d}, Der s.graphs.length (spotsOf s.graphs.length q.here) (joinsOf s q.name) (keysOf s q.name) x d → Der s.graphs.length (spotsOf s.graphs.length (q.here ++ more)) (joinsOf s q.name) (keysOf s q.name) x d := fun hD =>
      hD.mono (fun x hx => by simp only [spotsOf, List.filter_append]; exact List.mem_append_left _ hx) (fun _ h => h) (fun _ h => h)
    refine fR rfl ?_
    refine apN Spot.enc q.here rfl rfl rfl ?_ (h1 := by omega) (h2 := by omega)
    refine fM rfl ?_
    refine apM Spot.enc q.here more rfl rfl rfl rfl rfl ?_ (h1 := by omega) (h2 := by omega)
    refine fM rfl ?_
    refine rList q.here (fun i (_ : Unit) => { env := [(3, .ptr 0 0), (4, .ptr 1 0), (7, .own 2 3 ((q.here ++ more).map Spot.enc)), (8, .own 3 3 (((q.here.take i).map Spot.inc).map Spot.enc)), (9, .t (.int .i64 i))], s := ⟨[(0, .cells [.t (.lst (s.graphs.map sE)), .t s.doc, .t (.lst (s.keys.map KeyO.enc)), .t (.lst (s.joins.map Join.enc))]), (1, .cells [.t (.str q.name), .t (.lst (q.here.map Spot.enc)), .t (.str q.field)]), (2, .arr (q.here ++ more).length), (3, .arr ((q.here.take i).map Spot.inc).length)], 4⟩ }) (fun r i _ => ∀ x, x ∈ q.here.take i → 1 ≤ x.depth ∧ x.depth < 1099511627776) 3 () rfl (fun x hx => by simp at hx) rfl rfl rfl ?_ ?_
    · intro _ hd
      rw [List.take_length] at hd
      have hinc := spotsOf_inc s.graphs.length q.here hd
      have hcm : ∀ x, x ∈ spotsOf s.graphs.length q.here → (Spot.inc x).graph = x.graph ∧ (Spot.inc x).depth = x.depth + 1 ∧ (Spot.inc x).prov = x.prov := fun x _ => ⟨rfl, rfl, rfl⟩
      rw [hinc] at c2
      have hfine : ∀ g, g < s.graphs.length → growBad (A.getD g 0) (B.getD g 0) (C.getD g 0) = false := fun g hgn => by
        have e0 := a2.na g hgn
        have e1 : 0 ≤ C.getD g 0 := c2.na g hgn
        have e5 := a4 g
        have hac : ∀ d, Q (A.getD g 0) d ↔ Q (C.getD g 0) (d + 1) := fun d => by
          have k1 : Q (A.getD g 0) d ↔ Der s.graphs.length (spotsOf s.graphs.length q.here) (joinsOf s q.name) (keysOf s q.name) (.a g) d := a2.qa g hgn d
          have k2 : Q (C.getD g 0) (d + 1) ↔ Der s.graphs.length ((spotsOf s.graphs.length q.here).map Spot.inc) (joinsOf s q.name) (keysOf s q.name) (.a g) (d + 1) := c2.qa g hgn (d + 1)
          rw [k1, k2]
          refine ⟨fun hD => hD.mapS Spot.inc 1 hcm, fun hD => ?_⟩
          have := hD.mapS' Spot.inc 1 hcm
          rwa [show d + 1 - 1 = d by omega] at this
        have hab : ∀ d, Q (A.getD g 0) d → Q (B.getD g 0) d := fun d hq => (b2.qa g hgn d).2 (hmono ((a2.qa g hgn d).1 hq))
        have e0 : 0 ≤ A.getD g 0 := e0
        generalize A.getD g 0 = a at *
        generalize B.getD g 0 = b at *
        generalize C.getD g 0 = c at *
        have hw : IntKind.i64.wrap (a + 1) = a + 1 := wrap_small (by omega) (by omega)
        simp only [growBad, hw]
        by_cases ha : a > 0
        · have f1 := (hac a).1 ⟨by omega, by omega⟩
          have f2 := (hac (c - 1)).2 (by rw [show c - 1 + 1 = c by omega]; exact ⟨f1.1, by omega⟩)
          have f3 := hab a ⟨by omega, by omega⟩
          have := f1.1; have := f1.2; have := f2.2; have := f3.1; have := f3.2
          have hca : c = a + 1 := by omega
          simp [hca]; omega
        · have ha0 : a = 0 := by omega
          have hc0 : c = 0 := by
            by_cases hc : c = 0
            · exact hc
            · have f2 := (hac (c - 1)).2 (by rw [show c - 1 + 1 = c by omega]; exact ⟨by omega, by omega⟩)
              have := f2.1; omega
          simp [ha0, hc0]
      have hget : levelP s.graphs.length F A q.field > 0 → levelP s.graphs.length F2 B q.field > 0 ∧ levelP s.graphs.length F2 B q.field ≤ levelP s.graphs.length F A q.field := fun hp => by
        have := (b2.ql q.field _).2 (hmono ((a2.ql q.field (levelP s.graphs.length F A q.field)).1 ⟨by omega, by omega⟩))
        have k1 := this.1; have k2 := this.2
        exact ⟨by omega, k2⟩
      have hga := graphs_ok H a1
      have hgb := graphs_ok H b1
      have hgc := graphs_ok H c1
      have hta := get_ok H a1 q.field
      have htb := get_ok H b1 q.field
      have hAl : (A.take s.graphs.length).length = s.graphs.length := by simp; omega
      have hBl : (B.take s.graphs.length).length = s.graphs.length := by simp; omega
      have hCl : (C.take s.graphs.length).length = s.graphs.length := by simp; omega
      have hfine2 : ∀ g, g < s.graphs.length → growBad ((A.take s.graphs.length).getD g 0) ((B.take s.graphs.length).getD g 0) ((C.take s.graphs.length).getD g 0) = false := fun g hgn => by
        rw [getD_take hgn, getD_take hgn, getD_take hgn]; exact hfine g hgn
      generalize levelP s.graphs.length F A q.field = la at hget hta
      generalize levelP s.graphs.length F2 B q.field = lb at hget htb
      generalize A.take s.graphs.length = A' at *
      generalize B.take s.graphs.length = B' at *
      generalize C.take s.graphs.length = C' at *
      rw [List.take_length]
      refine fR rfl ?_
      refine lM rfl rfl rfl ?_
      refine fM rfl ?_
      refine Run.condF rfl rfl (by simp) ?_
      refine fR rfl ?_
      refine Mid.call (hga) rfl rfl rfl rfl ?_
      refine fM rfl ?_
      refine Mid.call (hgb) rfl rfl rfl rfl ?_
      refine fM rfl ?_
      refine Mid.call (hgc) rfl rfl rfl rfl ?_
      refine fM rfl ?_
      refine lM rfl rfl rfl ?_
      refine fM rfl ?_
      refine lM rfl rfl rfl ?_
      refine fM rfl ?_
      refine lMG rfl rfl rfl rfl ?_
      refine fM rfl ?_
      refine lMG rfl rfl rfl rfl ?_
      refine fM rfl ?_
      refine lMG rfl rfl rfl rfl ?_
      refine fM rfl ?_
      refine lMG rfl rfl rfl rfl ?_
      refine fM rfl ?_
      refine Run.condF rfl rfl (by simp [hAl, hBl, hCl]) ?_
      refine fR rfl ?_
      refine rList A' (fun i (_ : Unit) => { env := [(3, .ptr 0 0), (4, .ptr 1 0), (7, .own 2 3 ((q.here ++ more).map Spot.enc)), (11, .t (.lst (A'.map fun x => [iE x]))), (12, .t (.lst (B'.map fun x => [iE x]))), (13, .t (.lst (C'.map fun x => [iE x]))), (14, .t (.int .i64 i))], s := ⟨[(0, .cells [.t (.lst (s.graphs.map sE)), .t s.doc, .t (.lst (s.keys.map KeyO.enc)), .t (.lst (s.joins.map Join.enc))]), (1, .cells [.t (.str q.name), .t (.lst (q.here.map Spot.enc)), .t (.str q.field)]), (2, .arr (q.here ++ more).length)], 3⟩ }) (fun r i _ => True) 3 () rfl trivial rfl rfl rfl ?_ ?_
      · intro _ _
        refine fR rfl ?_
        refine lM rfl rfl rfl ?_
        refine fM rfl ?_
        refine Run.condF rfl rfl (by simp) ?_
        refine fR rfl ?_
        refine Mid.call (hta) rfl rfl rfl rfl ?_
        refine fM rfl ?_
        refine Mid.call (htb) rfl rfl rfl rfl ?_
        refine fM rfl ?_
        refine caG rfl rfl (fun hg => ⟨_, rfl, exampleHolds_ok H, rfl⟩) rfl rfl ?_
        refine fM rfl ?_
        refine Run.fin rfl (EndOk.go ?_)
        refine .t (congrArg T.bool ?_)
        by_cases hp : la > 0
        · have := hget hp; simp [hp, this.1, this.2]
        · simp [hp]
      · intro i x r _ h1 hi hd' _ ih
        have e1 : A'[i]? = some (A'.getD i 0) := by rw [List.getD_eq_getElem?_getD, List.getElem?_eq_getElem hi]; rfl
        have e2 : B'[i]? = some (B'.getD i 0) := by rw [List.getD_eq_getElem?_getD, List.getElem?_eq_getElem (by omega)]; rfl
        have e3 : C'[i]? = some (C'.getD i 0) := by rw [List.getD_eq_getElem?_getD, List.getElem?_eq_getElem (by omega)]; rfl
        have hf := hfine2 i (by omega)
        generalize A'.getD i 0 = a at *
        generalize B'.getD i 0 = b at *
        generalize C'.getD i 0 = c at *
        refine fR rfl ?_
        refine lM rfl rfl rfl ?_
        refine fM rfl ?_
        refine Run.condT rfl rfl (by simp; omega) ?_
        refine fR rfl ?_
        refine Mid.elemMap rfl rfl rfl e1 rfl rfl ?_
        refine fM rfl ?_
        refine elG rfl rfl rfl rfl e2 rfl rfl ?_
        refine fM rfl ?_
        refine elG rfl rfl rfl rfl e2 rfl rfl ?_
        refine fM rfl ?_
        refine elG rfl rfl rfl rfl e1 rfl rfl ?_
        refine fM rfl ?_
        refine elG rfl rfl rfl rfl e3 rfl rfl ?_
        refine fM rfl ?_
        refine elG rfl rfl rfl rfl e1 rfl rfl ?_
        refine fM rfl ?_
        refine gr rfl ?_
        refine fM rfl ?_
        refine elG rfl rfl rfl rfl e1 rfl rfl ?_
        refine fM rfl ?_
        refine elG rfl rfl rfl rfl e3 rfl rfl ?_
        refine fM rfl ?_
        refine Run.condF rfl rfl (show growBad a b c = false from hf) ?_
        refine fR rfl ?_
        refine aL rfl rfl rfl rfl rfl ?_
        refine fM rfl ?_
        exact rWeak 3 rfl (ih () trivial) rfl rfl rfl
    · intro i x r _ h1 hi hd hinv ih
      have htk : q.here.take (i + 1) = q.here.take i ++ [x] := by rw [List.take_add_one, h1]; rfl
      have hlen : ((q.here.take i).map Spot.inc).length ≤ 40 := by simp; omega
      refine fR rfl ?_
      refine lM rfl rfl rfl ?_
      refine fM rfl ?_
      refine Run.condT rfl rfl (by simp; omega) ?_
      refine fR rfl ?_
      refine Mid.elemMap rfl rfl rfl h1 rfl rfl ?_
      refine fM rfl ?_
      refine Run.cond rfl rfl (fun hc => ?_) (fun hc => ?_)
      · refine fR rfl ?_
        refine Mid.call (exampleHolds_ok H) rfl rfl rfl rfl ?_
        refine fM rfl ?_
        refine Run.fin rfl (EndOk.go ?_); exact .t rfl
      · have hd2 : 1 ≤ x.depth ∧ x.depth < 1099511627776 := by
          simp at hc; omega
        refine fR rfl ?_
        refine a64 rfl rfl rfl ?_
        refine fM rfl ?_
        refine apM Spot.enc ((q.here.take i).map Spot.inc) [x.inc] rfl rfl rfl rfl rfl ?_
        refine fM rfl ?_
        refine aL rfl rfl rfl rfl rfl ?_
        refine fM rfl ?_
        have e : (q.here.take i).map Spot.inc ++ [x.inc] = (q.here.take (i + 1)).map Spot.inc := by rw [htk]; simp
        rw [e]
        exact rWeak 4 rfl (ih () (fun y hy => by
          rw [htk] at hy
          rcases List.mem_append.1 hy with hy | hy
          · exact hinv y hy
          · simp at hy; subst hy; exact hd2)) rfl rfl rfl
end Go.GB.C26

/-
  GbX: what a law is handed, as trees; a law's row from its contract.
-/
namespace Go.GB
open Go.RowKit Go.WideShapes Go.ChangeShapes

abbrev allFix : Nat → Lab := fun _ => .fix none

/-- trees of a type -/
def WT (P : Program) : Nat → TypeId → List T → Prop
  | 0, _, _ => False
  | n + 1, t, ts =>
    match P.underlying t with
    | some .bool => ∃ b, ts = [.bool b]
    | some (.int k) => ∃ x, ts = [.int k x] ∧ (Lit.int k x).wf = true
    | some .string => ∃ s, ts = [.str s] ∧ s.length ≤ maxLen
    | some (.slice e) => ∃ xs, ts = [.lst xs] ∧ xs.length ≤ maxLen ∧ ∀ c ∈ xs, WT P n e c
    | some (.struct fs) => ts.length = P.cellsOf t ∧ ∀ f ∈ fs.toList, WT P n f.type ((ts.drop f.offset).take (P.cellsOf f.type))
    | some (.array m e) => ts.length = P.cellsOf t ∧ ∀ i, i < m → WT P n e ((ts.drop (i * P.cellsOf e)).take (P.cellsOf e))
    | _ => False

/-- places that follow each other: where they end -/
def consec (P : Program) : Nat → List (Nat × TypeId) → Option Nat
  | off, [] => some off
  | off, (o, t) :: r => if o = off then consec P (off + P.cellsOf t) r else none

/-- types of plain data: closed under their parts -/
def plainT (P : Program) (S : List TypeId) : Bool :=
  S.all fun t =>
    match P.underlying t with
    | some .bool => true
    | some (.int _) => true
    | some .string => true
    | some (.slice e) => S.contains e && decide (0 < P.cellsOf e)
    | some (.struct fs) => (fs.toList.all fun f => S.contains f.type) && (consec P 0 (fs.toList.map fun f => (f.offset, f.type)) == some (P.cellsOf t))
    | some (.array m e) => S.contains e && (consec P 0 ((List.range m).map fun i => (i * P.cellsOf e, e)) == some (P.cellsOf t))
    | _ => false

def RepL (w : World) (cs : List Value) (ts : List T) : Prop := cs.length = ts.length ∧ ∀ (j : Nat) (v : Value) (x : T), cs[j]? = some v → ts[j]? = some x → RepT allFix w v x

theorem RepL.one {w : World} {v : Value} {x : T} (h : RepT allFix w v x) : RepL w [v] [x] := by
  refine ⟨rfl, fun j u y h1 h2 => ?_⟩
  cases j with
  | zero => simp at h1 h2; subst h1; subst h2; exact h
  | succ j => simp at h1

theorem mapM_at {α β : Type} {g : α → Option β} : ∀ {l : List α} {r : List β}, l.mapM g = some r → l.length = r.length ∧ ∀ (j : Nat) (x : α), l[j]? = some x → ∃ y, r[j]? = some y ∧ g x = some y
  | [], r, h => by simp at h; subst h; simp
  | a :: l, r, h => by
    simp only [List.mapM_cons, Option.bind_eq_bind, Option.pure_def, Option.bind_eq_some_iff] at h
    obtain ⟨y, hy, r', hr, h⟩ := h
    simp at h; subst h
    obtain ⟨i1, i2⟩ := mapM_at hr
    refine ⟨by simp [i1], fun j x hx => ?_⟩
    cases j with
    | zero => simp at hx; subst hx; exact ⟨y, rfl, hy⟩
    | succ j => simpa using i2 j x (by simpa using hx)

theorem spot_none {w : World} {a : Addr} {v : Value} (h : w.cell? a = some v) : a.spot = none := by
  unfold World.cell? at h
  cases hs : a.spot with
  | none => rfl
  | some s =>
    rw [hs] at h
    split at h <;> simp_all

theorem cells?_at {w : World} {base n : Nat} {a : Addr} {cs : List Value} (h : w.cells? base a n = some cs) : cs.length = n ∧ ∀ (j : Nat) (v : Value), cs[j]? = some v → w.cell? (a.add j) = some v := by
  unfold World.cells? at h
  split at h
  · obtain ⟨h1, h2⟩ := mapM_at h
    simp at h1
    refine ⟨h1.symm, fun j v hj => ?_⟩
    have hlt : j < n := by rw [h1]; exact (List.getElem?_eq_some_iff.1 hj).1
    obtain ⟨y, e1, e2⟩ := h2 j j (by simp [hlt])
    rw [hj] at e1; simp at e1; subst e1; exact e2
  · cases h

/-- a list chosen index by index -/
theorem choose_list {α : Type} {Q : Nat → α → Prop} : ∀ (n : Nat), (∀ j, j < n → ∃ v, Q j v) → ∃ vs : List α, vs.length = n ∧ ∀ (j : Nat) (v : α), vs[j]? = some v → Q j v
  | 0, _ => ⟨[], rfl, by simp⟩
  | n + 1, h => by
    obtain ⟨vs, hl, hv⟩ := choose_list n (fun j hj => h j (by omega))
    obtain ⟨v, hq⟩ := h n (by omega)
    refine ⟨vs ++ [v], by simp [hl], fun j u hu => ?_⟩
    by_cases hj : j < vs.length
    · rw [List.getElem?_append_left hj] at hu; exact hv j u hu
    · rw [List.getElem?_append_right (by omega)] at hu
      by_cases e : j = n
      · subst e; rw [hl] at hu; simp at hu; subst hu; exact hq
      · rw [List.getElem?_eq_none (by simp; omega)] at hu; cases hu

theorem pieces {P : Program} {w : World} {n : Nat} {cs : List Value} : ∀ (l : List (Nat × TypeId)) (off tot : Nat), consec P off l = some tot → tot ≤ cs.length → (∀ p ∈ l, ∃ ts, RepL w ((cs.drop p.1).take (P.cellsOf p.2)) ts ∧ WT P n p.2 ts) →
    off ≤ tot ∧ ∃ ts : List T, ts.length = tot - off ∧ (∀ (j : Nat) (v : Value) (x : T), cs[off + j]? = some v → ts[j]? = some x → RepT allFix w v x) ∧ ∀ p ∈ l, off ≤ p.1 ∧ WT P n p.2 ((ts.drop (p.1 - off)).take (P.cellsOf p.2))
  | [], off, tot, hc, _, _ => by simp [consec] at hc; subst hc; exact ⟨Nat.le_refl _, [], by simp, by simp, by simp⟩
  | (o, t) :: r, off, tot, hc, hl, hp => by
    simp only [consec] at hc
    split at hc
    · rename_i e; subst e
      obtain ⟨h1, ts, h2, h3, h4⟩ := pieces r (o + P.cellsOf t) tot hc hl (fun p hp' => hp p (List.mem_cons_of_mem _ hp'))
      obtain ⟨us, k1, k2⟩ := hp (o, t) (by simp)
      have hul : us.length = P.cellsOf t := by rw [← k1.1]; simp; omega
      refine ⟨by omega, us ++ ts, by simp [hul, h2]; omega, fun j v x hv hx => ?_, fun p hpm => ?_⟩
      · by_cases hj : j < us.length
        · rw [List.getElem?_append_left hj] at hx
          refine k1.2 j v x ?_ hx
          simp only
          rw [List.getElem?_take, if_pos (by omega), List.getElem?_drop]; exact hv
        · rw [List.getElem?_append_right (by omega)] at hx
          refine h3 (j - us.length) v x ?_ hx
          have : o + P.cellsOf t + (j - us.length) = o + j := by omega
          rw [this]; exact hv
      · rcases List.mem_cons.1 hpm with e | e
        · subst e
          refine ⟨Nat.le_refl _, ?_⟩
          simp only [Nat.sub_self, List.drop_zero]
          rw [List.take_append_of_le_length (by omega), List.take_of_length_le (by omega)]
          exact k2
        · obtain ⟨g1, g2⟩ := h4 p e
          refine ⟨by omega, ?_⟩
          have : p.1 - o = us.length + (p.1 - (o + P.cellsOf t)) := by omega
          rw [this, List.drop_append, List.drop_eq_nil_of_le (by omega)]
          simpa using g2
    · cases hc

section
variable {H : Type} {enc : TypeId × Value → H} {P : Program} {w : World} {sp : Nat → Bool} {held : Bool} {S : List TypeId}

theorem trod_rep (hp : plainT P S = true) : ∀ (n : Nat) (t : TypeId) (cs : List Value) (d : DataW H) (ps : List MemPlace), t ∈ S → DataW.trod enc P w 0 sp held n t cs = some (d, ps) → ∃ ts, RepL w cs ts ∧ WT P n t ts
  | 0, t, cs, d, ps, _, h => by simp [DataW.trod] at h
  | n + 1, t, cs, d, ps, ht, h => by
    have hpt := List.all_eq_true.1 hp t ht
    simp only [WT]
    cases hu : P.underlying t with
    | none => rw [hu] at hpt; simp at hpt
    | some td =>
      rw [hu] at hpt
      cases td with
      | bool =>
        rcases cs with _ | ⟨v, _ | ⟨v2, r⟩⟩ <;> try (simp [DataW.trod, hu] at h; done)
        cases v <;> simp [DataW.trod, hu] at h
        rename_i b
        exact ⟨[.bool b], RepL.one (.bool b), b, rfl⟩
      | int k =>
        rcases cs with _ | ⟨v, _ | ⟨v2, r⟩⟩ <;> try (simp [DataW.trod, hu] at h; done)
        cases v <;> simp [DataW.trod, hu] at h
        rename_i k' x
        obtain ⟨⟨rfl, h2⟩, _⟩ := h
        exact ⟨[.int k' x], RepL.one (.int _ _), x, rfl, h2⟩
      | string =>
        rcases cs with _ | ⟨v, _ | ⟨v2, r⟩⟩ <;> try (simp [DataW.trod, hu] at h; done)
        cases v <;> simp [DataW.trod, hu] at h
        rename_i s
        exact ⟨[.str s.data.toList], RepL.one (.str _), s.data.toList, rfl, by simpa using h.1⟩
      | slice e =>
        simp only [Bool.and_eq_true, decide_eq_true_eq] at hpt
        have he : e ∈ S := by simpa using hpt.1
        rcases cs with _ | ⟨v, _ | ⟨v2, r⟩⟩ <;> try (simp [DataW.trod, hu] at h; done)
        cases v <;> try (simp [DataW.trod, hu] at h; done)
        rename_i a len cap
        cases a with
        | none =>
          have h0 : len = 0 ∧ cap = 0 := by
            cases len <;> cases cap <;> simp_all [DataW.trod]
          obtain ⟨rfl, rfl⟩ := h0
          exact ⟨[.lst []], RepL.one .nil, [], rfl, by simp, by simp⟩
        | some a =>
          simp only [DataW.trod, hu] at h
          split at h
          · rename_i hcond
            simp only [Option.bind_eq_some_iff] at h
            obtain ⟨elems, hel, _⟩ := h
            obtain ⟨hl, hat⟩ := mapM_at hel
            simp at hl
            have hone : ∀ i, i < len → ∃ q : List Value × List T, w.cells? 0 (a.add (i * P.cellsOf e)) (P.cellsOf e) = some q.1 ∧ RepL w q.1 q.2 ∧ WT P n e q.2 := by
              intro i hi
              obtain ⟨y, _, hy⟩ := hat i i (by simp [hi])
              simp only [Option.bind_eq_some_iff] at hy
              obtain ⟨c, hc, hy⟩ := hy
              obtain ⟨d', ps'⟩ := y
              obtain ⟨ts, k1, k2⟩ := trod_rep hp n e c d' ps' he hy
              exact ⟨(c, ts), hc, k1, k2⟩
            obtain ⟨qs, hql, hq⟩ := choose_list len hone
            have hsz : ∀ (i : Nat) (q : List Value × List T), qs[i]? = some q → q.1.length = P.cellsOf e ∧ q.2.length = P.cellsOf e := by
              intro i q hi
              obtain ⟨h1, h2, _⟩ := hq i q hi
              have := (cells?_at h1).1
              exact ⟨this, by rw [← h2.1]; exact this⟩
            -- the address has no spot, where anything is read
            have hspot : 0 < len → a.spot = none := by
              intro h0
              have hq0 : qs[0]? = some (qs[0]'(by omega)) := by simp
              obtain ⟨h1, _, _⟩ := hq 0 _ hq0
              obtain ⟨e1, e2⟩ := cells?_at h1
              have hlt : 0 < (qs[0]'(by omega)).1.length := by rw [(hsz 0 _ hq0).1]; exact hpt.2
              have := spot_none (e2 0 _ (List.getElem?_eq_getElem hlt))
              simpa [Addr.add] using this
            have hadd : ∀ m, 0 < len → a.add m = ⟨a.block, a.off + m, none⟩ := by
              intro m h0
              have hs := hspot h0
              obtain ⟨b, o, s⟩ := a
              simp at hs; subst hs
              exact add_mk b o m
            refine ⟨[.lst (qs.map (·.2))], RepL.one ?_, qs.map (·.2), rfl, by simp [hql]; omega, fun c hc => ?_⟩
            · have hlen : len = (qs.map (·.2)).length := by simp [hql]
              rw [hlen]
              refine .lst (some a) cap (P.cellsOf e) (qs.map (·.2)) a.block a.off (fun i j => ((qs.map (·.1)).getD i []).getD j undef) (by rw [← hlen]; exact hcond.2.1) ?_ ?_ ?_ ?_ ?_
              · intro i c hc
                rw [List.getElem?_map, Option.map_eq_some_iff] at hc
                obtain ⟨q, h1, rfl⟩ := hc
                exact (hsz i q h1).2
              · intro i j c x hc hx
                have h0 : 0 < len := by have := (List.getElem?_eq_some_iff.1 hc).1; simp [hql] at this; omega
                have hs := hspot h0
                obtain ⟨b, o, s⟩ := a
                simp at hs; subst hs; rfl
              · intro i j c x hc hx; trivial
              · intro i j c x hc hx
                rw [List.getElem?_map, Option.map_eq_some_iff] at hc
                obtain ⟨q, h1, rfl⟩ := hc
                have h0 : 0 < len := by have := (List.getElem?_eq_some_iff.1 h1).1; omega
                obtain ⟨g1, g2, _⟩ := hq i q h1
                obtain ⟨e1, e2⟩ := cells?_at g1
                have hj : j < q.1.length := by rw [g2.1]; exact (List.getElem?_eq_some_iff.1 hx).1
                have := e2 j _ (List.getElem?_eq_getElem hj)
                rw [hadd _ h0] at this
                rw [add_mk] at this
                rw [this]
                simp [h1, hj]
              · intro i j c x hc hx
                rw [List.getElem?_map, Option.map_eq_some_iff] at hc
                obtain ⟨q, h1, rfl⟩ := hc
                obtain ⟨g1, g2, _⟩ := hq i q h1
                have hj : j < q.1.length := by rw [g2.1]; exact (List.getElem?_eq_some_iff.1 hx).1
                have := g2.2 j _ x (List.getElem?_eq_getElem hj) hx
                simpa [h1, hj] using this
            · rw [List.mem_map] at hc
              obtain ⟨q, h1, rfl⟩ := hc
              obtain ⟨i, hi⟩ := List.mem_iff_getElem?.1 h1
              exact (hq i q hi).2.2
          · cases h
      | struct fs =>
        simp only [Bool.and_eq_true, List.all_eq_true, beq_iff_eq] at hpt
        have hh : cs.length = P.cellsOf t ∧ ∃ xs, (fs.toList.mapM fun f => DataW.trod enc P w 0 sp held n f.type ((cs.drop f.offset).take (P.cellsOf f.type))) = some xs := by
          have h' := h
          simp only [DataW.trod, hu] at h'
          split at h'
          · rename_i hc
            simp only [Option.map_eq_some_iff] at h'
            obtain ⟨xs, hxs, _⟩ := h'
            exact ⟨hc, xs, hxs⟩
          · cases h'
        obtain ⟨hlen, xs, hxs⟩ := hh
        obtain ⟨hl, hat⟩ := mapM_at hxs
        obtain ⟨_, ts, g1, g2, g3⟩ := pieces (n := n) (w := w) (cs := cs) _ 0 _ hpt.2 (by omega) (fun p hpm => by
          rw [List.mem_map] at hpm
          obtain ⟨f, hf, rfl⟩ := hpm
          obtain ⟨j, hj⟩ := List.mem_iff_getElem?.1 hf
          obtain ⟨y, _, hy⟩ := hat j f hj
          obtain ⟨d', ps'⟩ := y
          exact trod_rep hp n f.type _ d' ps' (by simpa using hpt.1 f hf) hy)
        refine ⟨ts, ⟨by omega, fun j v x hv hx => g2 j v x (by simpa using hv) hx⟩, by omega, fun f hf => ?_⟩
        have := (g3 (f.offset, f.type) (List.mem_map.2 ⟨f, hf, rfl⟩)).2
        simpa using this
      | array m e =>
        simp only [Bool.and_eq_true, beq_iff_eq] at hpt
        have hh : cs.length = P.cellsOf t ∧ ∃ xs, ((List.range m).mapM fun i => DataW.trod enc P w 0 sp held n e ((cs.drop (i * P.cellsOf e)).take (P.cellsOf e))) = some xs := by
          have h' := h
          simp only [DataW.trod, hu] at h'
          split at h'
          · rename_i hc
            simp only [Option.map_eq_some_iff] at h'
            obtain ⟨xs, hxs, _⟩ := h'
            exact ⟨hc, xs, hxs⟩
          · cases h'
        obtain ⟨hlen, xs, hxs⟩ := hh
        obtain ⟨hl, hat⟩ := mapM_at hxs
        obtain ⟨_, ts, g1, g2, g3⟩ := pieces (n := n) (w := w) (cs := cs) _ 0 _ hpt.2 (by omega) (fun p hpm => by
          rw [List.mem_map] at hpm
          obtain ⟨i, hi, rfl⟩ := hpm
          obtain ⟨y, _, hy⟩ := hat i i (by simp [List.mem_range.1 hi])
          obtain ⟨d', ps'⟩ := y
          exact trod_rep hp n e _ d' ps' (by simpa using hpt.1) hy)
        refine ⟨ts, ⟨by omega, fun j v x hv hx => g2 j v x (by simpa using hv) hx⟩, by omega, fun i hi => ?_⟩
        have := (g3 (i * P.cellsOf e, e) (List.mem_map.2 ⟨i, List.mem_range.2 hi, rfl⟩)).2
        simpa using this
      | _ => simp at hpt

/-- an argument as an abstract value -/
def argV (P : Program) (t : TypeId) (ts : List T) : V := if isAggT P t then .agg (ts.map V.t) else .t (ts.headD .nilp)

/-- the world that a law is called in -/
def L.all (w : World) : L := { lab := allFix, fro := fun _ => 0, nxt := 0, w := w }

theorem RelS.all (w : World) : RelS (L.all w) ⟨[], 0⟩ := ⟨by simp [aget], fun b b' k h => by simp [L.all] at h, fun _ _ => rfl, fun b k h => by simp [L.all] at h, fun _ _ => rfl⟩

theorem arg_rel (hp : plainT P S = true) {base : Nat} {t : TypeId} {v : Value} {d : DataW H} {ps : List MemPlace} (ht : t ∈ S) (hok : Value.okWide P w .any base t v) (h : DataW.Trod enc P w 0 sp held t v d ps) :
    ∃ n ts, WT P n t ts ∧ RelV (L.all w) v (argV P t ts) := by
  obtain ⟨n, hn⟩ := h
  obtain ⟨ts, h1, h2⟩ := trod_rep hp n t _ d ps ht hn
  refine ⟨n, ts, h2, ?_⟩
  have hpt := List.all_eq_true.1 hp t ht
  unfold argV
  by_cases hag : isAggT P t = true
  · simp only [hag, if_true]
    have : ∃ cs, v = .agg cs := by
      unfold isAggT at hag
      unfold Value.okWide at hok
      cases hu : P.underlying t with
      | none => rw [hu] at hag; simp at hag
      | some td => rw [hu] at hag hok; cases td <;> simp at hag <;> exact ⟨_, hok.choose_spec.1⟩
    obtain ⟨cs, rfl⟩ := this
    refine .agg (by simpa [Value.cells] using h1.1) fun j u c hj hc => ?_
    rw [List.getElem?_map, Option.map_eq_some_iff] at hc
    obtain ⟨x, hx, rfl⟩ := hc
    exact .t (h1.2 j u x (by simpa [Value.cells] using hj) hx)
  · simp only [hag, if_false, Bool.false_eq_true]
    have hcells : v.cells = #[v] := by
      unfold isAggT at hag
      unfold Value.okWide at hok
      cases hu : P.underlying t with
      | none => rw [hu] at hpt; simp at hpt
      | some td =>
        rw [hu] at hag hok hpt
        cases td <;> simp at hag hpt <;> simp only [Cell.okWide, Cell.ok, hu] at hok <;> cases v <;> first | rfl | (exact hok.elim)
    have hcl : ts.length = 1 := by rw [← h1.1, hcells]; rfl
    obtain ⟨x, rfl⟩ : ∃ x, ts = [x] := by
      match ts, hcl with
      | [x], _ => exact ⟨x, rfl⟩
    exact .t (h1.2 0 v x (by rw [hcells]; rfl) rfl)

/-- arguments one by one -/
inductive WTs (P : Program) : List TypeId → List V → Prop
  | nil : WTs P [] []
  | cons {t : TypeId} {ts : List TypeId} {n : Nat} {xs : List T} {vs : List V} (h : WT P n t xs) (r : WTs P ts vs) : WTs P (t :: ts) (argV P t xs :: vs)

theorem args_rel (hp : plainT P S = true) {base : Nat} : ∀ (ts : List TypeId) (args : List Value) (ds : List (DataW H)) (ps : List MemPlace), (∀ t ∈ ts, t ∈ S) → (∀ (j : Nat) t v, ts[j]? = some t → args[j]? = some v → Value.okWide P w .any base t v) →
    DataW.TrodAll enc P w 0 sp held ts args ds ps → ∃ vs, WTs P ts vs ∧ args.length = vs.length ∧ ∀ (j : Nat) (v : Value) (x : V), args[j]? = some v → vs[j]? = some x → RelV (L.all w) v x
  | [], [], [], ps, _, _, _ => ⟨[], .nil, rfl, by simp⟩
  | t :: ts, v :: args, d :: ds, ps, hS, hok, ⟨p, q, h1, h2, _⟩ => by
    obtain ⟨vs, k1, k2, k3⟩ := args_rel hp ts args ds q (fun t ht => hS t (List.mem_cons_of_mem _ ht)) (fun j t v a b => hok (j + 1) t v (by simpa using a) (by simpa using b)) h2
    obtain ⟨n, xs, g1, g2⟩ := arg_rel hp (hS t (by simp)) (hok 0 t v rfl rfl) h1
    refine ⟨argV P t xs :: vs, .cons g1 k1, by simp [k2], fun j u x hu hx => ?_⟩
    cases j with
    | zero => simp at hu hx; subst hu; subst hx; exact g2
    | succ j => exact k3 j u x (by simpa using hu) (by simpa using hx)
  | [], _ :: _, _, _, _, _, h => by simp [DataW.TrodAll] at h
  | [], [], _ :: _, _, _, _, h => by simp [DataW.TrodAll] at h
  | _ :: _, [], _, _, _, _, h => by simp [DataW.TrodAll] at h
  | _ :: _, _ :: _, [], _, _, _, h => by simp [DataW.TrodAll] at h

theorem trodAll_stays (hl : laidOutB P = true) {W W' : World} (hb : Below W.heap.size W W') {sp' : Nat → Bool} : ∀ (ts : List TypeId) (vs : List Value) (ds : List (DataW H)) (ps : List MemPlace), (∀ t ∈ ts, P.readableRec t = true ∧ t < P.types.size) → DataW.TrodAll enc P W 0 (fun _ => true) true ts vs ds ps →
    (∀ p ∈ ps, p.block < W.heap.size) → (∀ p ∈ ps, sp' p.block = true) → DataW.TrodAll enc P W' 0 sp' true ts vs ds ps
  | [], [], [], _, _, h, _, _ => h
  | t :: ts, v :: vs, d :: ds, _, hT, ⟨p, q, h1, h2, e⟩, hlt, hs => by
    subst e
    refine ⟨p, q, WideElems.Trod_stays hl (hT t (by simp)).1 (hT t (by simp)).2 h1 (fun x hx => hb.same (hlt x (List.mem_append_left _ hx))) (fun x hx => hs x (List.mem_append_left _ hx)), ?_, rfl⟩
    exact trodAll_stays hl hb ts vs ds q (fun t ht => hT t (List.mem_cons_of_mem _ ht)) h2 (fun x hx => hlt x (List.mem_append_right _ hx)) (fun x hx => hs x (List.mem_append_right _ hx))
  | [], _ :: _, _, _, _, h, _, _ => by simp [DataW.TrodAll] at h
  | [], [], _ :: _, _, _, h, _, _ => by simp [DataW.TrodAll] at h
  | _ :: _, [], _, _, _, h, _, _ => by simp [DataW.TrodAll] at h
  | _ :: _, _ :: _, [], _, _, h, _, _ => by simp [DataW.TrodAll] at h

end

section
variable {H : Type} {enc : TypeId × Value → H} {P : Program}
theorem post_of_below {f : Func} {s : ChangeSpec} {apart fresh handsOn again : Bool} {W W' : World} {args : Array Value} {v : Value} {ds gs : List (DataW H)} {before pa pv : List MemPlace}
    (hW : DataW.Whole enc P f.params.toList s.vars apart W args.toList ds gs before)
    (hres : ∀ (b : Nat) (sp : Nat → Bool) (hd : Bool), DataW.TrodAll enc P W' b sp hd f.resultTypes.toList (v.resultList f.resultTypes.size) (s.fn H (ds ++ gs)).results [])
    (hargs : ∀ sp : Nat → Bool, (∀ p ∈ before, sp p.block = true) → DataW.TrodAll enc P W' 0 sp true f.params.toList args.toList (s.fn H (ds ++ gs)).args pa)
    (hvars : ∀ sp : Nat → Bool, (∀ p ∈ before, sp p.block = true) → DataW.TrodVars enc P W' sp s.vars (s.fn H (ds ++ gs)).vars pv)
    (hps : before = pa ++ pv) (hb : Below W.heap.size W W')
    (hok : ∀ (j : Nat) (t : TypeId) (r : Value), f.resultTypes[j]? = some t → (v.resultList f.resultTypes.size)[j]? = some r → Value.okWide P W' .any 0 t r) :
    s.post enc P f apart fresh handsOn again W args v W' := by
  have hlt : ∀ p ∈ before, p.block < W.heap.size := fun p hp => hW.lt p hp
  have hold : ∀ p ∈ before, (fun b => decide (b < W.heap.size)) p.block = true := fun p hp => by simpa using hlt p hp
  refine ⟨ds, gs, before, [], pa, pv, hW, hres _ _ _, hargs _ hold, hvars _ hold, World.keptBut_mono (fun p hp => ⟨hp, ?_⟩) (hb.frame (· ∈ before)), fun _ => ?_⟩
  · rw [hps, List.mem_append] at hp
    exact Or.inr hp
  · obtain ⟨_, _, _, _, _, hz, hn⟩ := hW
    refine ⟨hok, _, _, ([] ++ pa) ++ pv, ⟨[] ++ pa, pv, trodAll_append (hargs _ (fun _ _ => rfl)) (hres _ _ _), hvars _ (fun _ _ => rfl), rfl, ?_, ?_⟩, ?_⟩
    · intro b off hp
      have hin : MemPlace.cell b off ∈ before := by rw [hps]; simpa using hp
      rw [hb.frozen (hlt _ hin)]
      exact hz b off hin
    · intro ha
      have := hn ha
      rw [hps] at this
      simpa using this
    · intro p hp _
      rw [hps]
      simpa using hp

/-- A law's contract, as its row wants it. -/
theorem law_contract {S : List TypeId} {f : FuncId} {fn : Func} {s : ChangeSpec} {tb : TypeId} {apart fresh handsOn again : Bool} (hp : plainT P S = true) (hl : laidOutB P = true) (hT : ∀ t ∈ fn.params.toList, t ∈ S ∧ P.readableRec t = true ∧ t < P.types.size)
    (hrt : fn.resultTypes = #[tb]) (hb : P.underlying tb = some .bool) (hv : s.vars = []) (hs : ∀ ds : List (DataW H), ds.length = fn.params.size → s.fn H ds = { results := [.lit (.bool true)], args := ds })
    (W : World) (base : Nat) (args : Array Value) (ds gs : List (DataW H)) (before : List MemPlace)
    (hval : ∀ (j : Nat) t v, fn.params[j]? = some t → args[j]? = some v → Value.okWide P W .any base t v)
    (hW : DataW.Whole enc P fn.params.toList s.vars apart W args.toList ds gs before)
    (hok : ∀ vs, WTs P fn.params.toList vs → FnOk P f vs ⟨[], 0⟩ { v := .t (.bool true) }) :
    Calls P f args W fun e W' => ∃ v, e = .returned v ∧ s.post enc P fn apart fresh handsOn again W args v W' := by
  have hW' := hW
  obtain ⟨p, q, hA, hV, rfl, hfz, hnd⟩ := hW
  rw [hv] at hV
  obtain ⟨rfl, rfl⟩ := trodVars_none hV
  obtain ⟨vs, k1, k2, k3⟩ := args_rel hp _ _ _ _ (fun t ht => (hT t ht).1) (fun j t v a b => hval j t v (by simpa using a) (by simpa using b)) hA
  have hdl : ds.length = fn.params.size := by
    have : ∀ (ts : List TypeId) (vs : List Value) (ds : List (DataW H)) (ps : List MemPlace), DataW.TrodAll enc P W 0 (fun _ => true) true ts vs ds ps → ds.length = ts.length := by
      intro ts
      induction ts with
      | nil => intro vs ds ps h; cases vs <;> cases ds <;> simp_all [DataW.TrodAll]
      | cons t ts ih =>
        intro vs ds ps h
        cases vs with
        | nil => simp [DataW.TrodAll] at h
        | cons v vs =>
          cases ds with
          | nil => simp [DataW.TrodAll] at h
          | cons d ds => obtain ⟨p, q, _, h2, _⟩ := h; simp [ih vs ds q h2]
    simpa using this _ _ _ _ hA
  refine ((hok vs k1).2 (L.all W) args (RelS.all W) rfl (by simpa using k2) (fun j v x a b => k3 j v x (by simpa using a) b)).mono fun e W' he => ?_
  obtain ⟨v, Λ', rfl, rfl, g1, g2, g3, g4⟩ := he
  have hvt := g4.repT.bool_inv
  subst hvt
  have hbel : Below W.heap.size W Λ'.w := ⟨g1.fr.os, g1.fr.tape, g1.fr.output, g1.fr.size, fun b hb => (g1.fr.fix b hb none rfl).2⟩
  have hsf := hs (ds ++ []) (by simpa using hdl)
  refine ⟨_, rfl, post_of_below (pa := p) (pv := []) (by simpa using hW') ?_ ?_ ?_ (by simp) hbel ?_⟩
  · intro b sp hd
    rw [hsf, hrt]
    exact ⟨[], [], ⟨1, by simp [DataW.trod, hb, Value.cells]⟩, rfl, rfl⟩
  · intro sp hsp
    rw [hsf]
    have hlt : ∀ x ∈ p, x.block < W.heap.size := fun x hx => hW'.lt x (by simpa using hx)
    simpa using trodAll_stays hl hbel _ _ _ _ (fun t ht => (hT t ht).2) hA hlt (fun x hx => hsp x (by simpa using hx))
  · intro sp hsp
    rw [hsf, hv]; rfl
  · intro j t r hj hr
    rw [hrt] at hj
    cases j with
    | zero =>
      simp at hj; subst hj
      simp [hrt, Value.resultList] at hr; subst hr
      simp [Value.okWide, Cell.okWide, Cell.ok, hb]
    | succ j => simp at hj
end
end Go.GB

/-
  GbZA: shapes of plain types: what a law is handed, taken apart.
-/
namespace Go.GB
open Go.RowKit Go.WideShapes Go.ChangeShapes

inductive Sh where
  | bool
  | int (k : IntKind)
  | str
  | lst (s : List Sh)
  | any

/-- fields side by side -/
def joinSh (P : Program) (g : TypeId → Option (List Sh)) : Nat → List (Nat × TypeId) → Option (List Sh)
  | _, [] => some []
  | off, (o, t) :: r =>
    if o = off then
      match g t with
      | some a => if a.length = P.cellsOf t then (joinSh P g (off + P.cellsOf t) r).map fun b => a ++ b else none
      | none => none
    else none

def shOf (P : Program) : Nat → TypeId → Option (List Sh)
  | 0, t =>
    match P.underlying t with
    | some .bool => some [.bool]
    | some (.int k) => some [.int k]
    | some .string => some [.str]
    | some (.slice _) => some [.any]
    | _ => none
  | n + 1, t =>
    match P.underlying t with
    | some .bool => some [.bool]
    | some (.int k) => some [.int k]
    | some .string => some [.str]
    | some (.slice e) => (shOf P n e).map fun s => [.lst s]
    | some (.struct fs) => (joinSh P (shOf P n) 0 (fs.toList.map fun f => (f.offset, f.type))).bind fun s => if s.length = P.cellsOf t then some s else none
    | some (.array m e) => (joinSh P (shOf P n) 0 ((List.range m).map fun i => (i * P.cellsOf e, e))).bind fun s => if s.length = P.cellsOf t then some s else none
    | _ => none

mutual
/-- a tree of that shape -/
def Sh.ok : Sh → T → Prop
  | .bool, x => ∃ b, x = .bool b
  | .int k, x => ∃ n, x = .int k n ∧ (Lit.int k n).wf = true
  | .str, x => ∃ s, x = .str s ∧ s.length ≤ maxLen
  | .lst sh, x => ∃ xs : List (List T), x = .lst xs ∧ xs.length ≤ maxLen ∧ ∀ c ∈ xs, Sh.oks sh c
  | .any, _ => True
def Sh.oks : List Sh → List T → Prop
  | [], [] => True
  | s :: r, x :: ts => s.ok x ∧ Sh.oks r ts
  | _, _ => False
end

theorem Sh.oks_append : ∀ {a b : List Sh} {ts us : List T}, Sh.oks a ts → Sh.oks b us → Sh.oks (a ++ b) (ts ++ us)
  | [], b, [], us, _, h => h
  | [], b, x :: ts, us, h, _ => by simp [Sh.oks] at h
  | s :: r, b, [], us, h, _ => by simp [Sh.oks] at h
  | s :: r, b, x :: ts, us, h, k => by
    simp only [Sh.oks, List.cons_append] at h ⊢
    exact ⟨h.1, Sh.oks_append h.2 k⟩
theorem Sh.oks_length : ∀ {a : List Sh} {ts : List T}, Sh.oks a ts → a.length = ts.length
  | [], [], _ => rfl
  | [], x :: ts, h => by simp [Sh.oks] at h
  | s :: r, [], h => by simp [Sh.oks] at h
  | s :: r, x :: ts, h => by
    simp only [Sh.oks] at h
    simp [Sh.oks_length h.2]

theorem joinSh_ok {P : Program} {g : TypeId → Option (List Sh)} {n : Nat} (hg : ∀ t sh ts, g t = some sh → WT P n t ts → Sh.oks sh ts) : ∀ (l : List (Nat × TypeId)) (off : Nat) (sh : List Sh) (ts : List T), joinSh P g off l = some sh → (∀ p ∈ l, WT P n p.2 ((ts.drop p.1).take (P.cellsOf p.2))) →
    ∃ us, Sh.oks sh us ∧ us = (ts.drop off).take sh.length
  | [], off, sh, ts, h, _ => by simp [joinSh] at h; subst h; exact ⟨[], trivial, by simp⟩
  | (o, t) :: r, off, sh, ts, h, hp => by
    simp only [joinSh] at h
    split at h
    · rename_i e; subst e
      split at h
      · rename_i a ha
        split at h
        · rename_i hl
          simp only [Option.map_eq_some_iff] at h
          obtain ⟨b, hb, rfl⟩ := h
          have h1 := hg t a _ ha (hp (o, t) (by simp))
          obtain ⟨us, h2, h3⟩ := joinSh_ok hg r _ b ts hb fun p hpm => hp p (List.mem_cons_of_mem _ hpm)
          refine ⟨_, Sh.oks_append h1 h2, ?_⟩
          simp only at h1 ⊢
          rw [h3, List.length_append, hl, List.take_add, List.drop_drop]
        · cases h
      · cases h
    · cases h

theorem shOf_ok {P : Program} : ∀ (n m : Nat) (t : TypeId) (sh : List Sh) (ts : List T), shOf P m t = some sh → WT P n t ts → Sh.oks sh ts
  | 0, m, t, sh, ts, _, h => by simp [WT] at h
  | n + 1, 0, t, sh, ts, hs, h => by
    simp only [shOf] at hs
    simp only [WT] at h
    cases hu : P.underlying t with
    | none => rw [hu] at h; exact h.elim
    | some td =>
      rw [hu] at h hs
      cases td with
      | bool => simp only [Option.some.injEq] at hs h; subst hs; obtain ⟨b, rfl⟩ := h; exact ⟨⟨b, rfl⟩, trivial⟩
      | int k => simp at hs h; subst hs; obtain ⟨x, rfl, hw⟩ := h; exact ⟨⟨x, rfl, hw⟩, trivial⟩
      | string => simp at hs h; subst hs; obtain ⟨s, rfl, hw⟩ := h; exact ⟨⟨s, rfl, hw⟩, trivial⟩
      | slice e =>
        simp at hs; subst hs
        obtain ⟨xs, rfl, hl, hc⟩ := h
        exact ⟨trivial, trivial⟩
      | _ => simp at hs
  | n + 1, m + 1, t, sh, ts, hs, h => by
    simp only [shOf] at hs
    simp only [WT] at h
    cases hu : P.underlying t with
    | none => rw [hu] at h; exact h.elim
    | some td =>
      rw [hu] at h hs
      cases td with
      | bool => simp only [Option.some.injEq] at hs h; subst hs; obtain ⟨b, rfl⟩ := h; exact ⟨⟨b, rfl⟩, trivial⟩
      | int k => simp at hs h; subst hs; obtain ⟨x, rfl, hw⟩ := h; exact ⟨⟨x, rfl, hw⟩, trivial⟩
      | string => simp at hs h; subst hs; obtain ⟨s, rfl, hw⟩ := h; exact ⟨⟨s, rfl, hw⟩, trivial⟩
      | slice e =>
        simp only [Option.map_eq_some_iff] at hs
        obtain ⟨s, he, rfl⟩ := hs
        obtain ⟨xs, rfl, hl, hc⟩ := h
        exact ⟨⟨xs, rfl, hl, fun c hcm => shOf_ok n m e s c he (hc c hcm)⟩, trivial⟩
      | struct fs =>
        simp only [Option.bind_eq_some_iff] at hs h
        obtain ⟨s, hs, hs2⟩ := hs
        split at hs2
        · rename_i hl
          simp at hs2; subst hs2
          obtain ⟨us, h1, h2⟩ := joinSh_ok (ts := ts) (g := shOf P m) (n := n) (fun t sh ts a b => shOf_ok n m t sh ts a b) _ 0 s hs (fun p hp => by
            rw [List.mem_map] at hp
            obtain ⟨f, hf, rfl⟩ := hp
            exact h.2 f hf)
          rw [List.drop_zero, List.take_of_length_le (by omega)] at h2
          subst h2; exact h1
        · cases hs2
      | array k e =>
        simp only [Option.bind_eq_some_iff] at hs h
        obtain ⟨s, hs, hs2⟩ := hs
        split at hs2
        · rename_i hl
          simp at hs2; subst hs2
          obtain ⟨us, h1, h2⟩ := joinSh_ok (ts := ts) (g := shOf P m) (n := n) (fun t sh ts a b => shOf_ok n m t sh ts a b) _ 0 s hs (fun p hp => by
            rw [List.mem_map] at hp
            obtain ⟨i, hi, rfl⟩ := hp
            exact h.2 i (List.mem_range.1 hi))
          rw [List.drop_zero, List.take_of_length_le (by omega)] at h2
          subst h2; exact h1
        · cases hs2
      | _ => simp at h

/-- trees one by one -/
theorem Sh.oks_cons {s : Sh} {r : List Sh} {ts : List T} (h : Sh.oks (s :: r) ts) : ∃ x ts', ts = x :: ts' ∧ s.ok x ∧ Sh.oks r ts' := by
  cases ts with
  | nil => simp [Sh.oks] at h
  | cons x ts => exact ⟨x, ts, rfl, h⟩
theorem Sh.oks_nil {ts : List T} (h : Sh.oks [] ts) : ts = [] := by
  cases ts with
  | nil => rfl
  | cons x ts => simp [Sh.oks] at h

/-- a list whose elements are encodings -/
theorem choose_map {α : Type} {f : α → List T} {Q : α → Prop} : ∀ (xs : List (List T)), (∀ c ∈ xs, ∃ a, c = f a ∧ Q a) → ∃ l : List α, xs = l.map f ∧ ∀ a ∈ l, Q a
  | [], _ => ⟨[], rfl, by simp⟩
  | c :: xs, h => by
    obtain ⟨l, h1, h2⟩ := choose_map xs (fun c hc => h c (List.mem_cons_of_mem _ hc))
    obtain ⟨a, rfl, ha⟩ := h c (by simp)
    exact ⟨a :: l, by simp [h1], fun b hb => by
      rcases List.mem_cons.1 hb with e | e
      · subst e; exact ha
      · exact h2 b e⟩

theorem WTs.cons_inv {P : Program} {t : TypeId} {ts : List TypeId} {vs : List V} (h : WTs P (t :: ts) vs) {m : Nat} {sh : List Sh} (hs : shOf P m t = some sh) : ∃ xs r, vs = argV P t xs :: r ∧ Sh.oks sh xs ∧ WTs P ts r := by
  cases h with
  | cons h r => exact ⟨_, _, rfl, shOf_ok _ _ _ _ _ hs h, r⟩
theorem WTs.nil_inv {P : Program} {vs : List V} (h : WTs P [] vs) : vs = [] := by
  cases h; rfl
theorem argV_agg {P : Program} {t : TypeId} (h : isAggT P t = true) (xs : List T) : argV P t xs = .agg (xs.map V.t) := by simp [argV, h]
theorem argV_one {P : Program} {t : TypeId} (h : isAggT P t = false) (x : T) : argV P t [x] = .t x := by simp [argV, h]

/-- 'law_contract', its facts as Booleans -/
theorem law_ok {H : Type} {enc : TypeId × Value → H} {P : Program} (S : List TypeId) {f : FuncId} {fn : Func} {s : ChangeSpec} {tb : TypeId} {apart fresh handsOn again : Bool} (hp : plainT P S = true) (hl : laidOutB P = true)
    (hT : (fn.params.toList.all fun t => S.contains t && P.readableRec t && decide (t < P.types.size)) = true)
    (hrt : fn.resultTypes = #[tb]) (hb : P.underlying tb = some .bool) (hv : s.vars = []) (hs : ∀ ds : List (DataW H), ds.length = fn.params.size → s.fn H ds = { results := [.lit (.bool true)], args := ds })
    (W : World) (base : Nat) (args : Array Value) (ds gs : List (DataW H)) (before : List MemPlace)
    (hval : ∀ (j : Nat) t v, fn.params[j]? = some t → args[j]? = some v → Value.okWide P W .any base t v)
    (hW : DataW.Whole enc P fn.params.toList s.vars apart W args.toList ds gs before)
    (hok : ∀ vs, WTs P fn.params.toList vs → FnOk P f vs ⟨[], 0⟩ { v := .t (.bool true) }) :
    Calls P f args W fun e W' => ∃ v, e = .returned v ∧ s.post enc P fn apart fresh handsOn again W args v W' := by
  refine law_contract (S := S) hp hl (fun t ht => ?_) hrt hb hv hs W base args ds gs before hval hW hok
  rw [List.all_eq_true] at hT
  have := hT t ht
  simp only [Bool.and_eq_true, decide_eq_true_eq, List.contains_iff_mem] at this
  exact ⟨this.1.1, this.1.2, this.2⟩

theorem len1 {α : Type} {l : List α} (h : l.length = 1) : ∃ a, l = [a] := by
  match l, h with
  | [a], _ => exact ⟨a, rfl⟩
theorem len2 {α : Type} {l : List α} (h : l.length = 2) : ∃ a b, l = [a, b] := by
  match l, h with
  | [a, b], _ => exact ⟨a, b, rfl⟩
theorem len3 {α : Type} {l : List α} (h : l.length = 3) : ∃ a b c, l = [a, b, c] := by
  match l, h with
  | [a, b, c], _ => exact ⟨a, b, c, rfl⟩

theorem arr2 {α : Type} {l : Array α} (h : l.size = 2) : ∃ a b, l = #[a, b] := by
  obtain ⟨l⟩ := l
  obtain ⟨a, b, rfl⟩ := len2 (l := l) (by simpa using h)
  exact ⟨a, b, rfl⟩

/-- a function with a body -/
theorem hasB_of {P : Program} {f : FuncId} {fn : Func} {args : Array Value} {w : World} (h : P.funcs[f]? = some fn) (hb : (fn.body.isSome && !(fn.name == "runtime.NumGoroutine")) = true) : (callFunc f args).run P w = .ok (.enter f args) w := by
  simp only [Bool.and_eq_true, Bool.not_eq_true'] at hb
  obtain ⟨c, hc⟩ := Option.isSome_iff_exists.1 hb.1
  simp only [callFunc]
  simp [program, Sem.run, h, hc]
  have := hb.2
  simp at this
  simp [this]

end Go.GB

/-
  R26Z: the law ReachOrders; chapter 26's data out of shapes.
-/
namespace Go.GB.C26
open Go.GB
set_option linter.unusedSimpArgs false
set_option linter.unusedVariables false
set_option maxRecDepth 100000
set_option maxHeartbeats 1000000
variable {P : Program}

theorem rev_at {α : Type} {l : List α} {k i : Nat} {x : α} (h : l.reverse[k]? = some x) (hk : k < l.length) (hi : ((l.length : Int) - 1 - k) = i) : l[i]? = some x := by
  rw [List.getElem?_reverse (by omega)] at h
  rw [← h]; congr 1; omega
theorem reachOrders (H : Pr P) (s : Super) (q : Ask) (ho : ∀ x, x ∈ q.here → x.ok) : FnOk P 5 [s.v, q.v] ⟨[], 0⟩ { v := .t (.bool true) } := by
  refine FnOk.run H.i5 H.mixed rfl rfl ?_
  refine fR rfl ?_
  refine Mid.call (large_ok H s q.here) rfl rfl rfl rfl ?_
  refine fM rfl ?_
  refine caG rfl rfl (fun hg => ⟨_, rfl, twice_ok H s.joins (by
    have hl : largeP s q.here = false := by simpa using hg
    simp only [largeP, big0, Bool.or_eq_false_iff, decide_eq_false_iff_not] at hl; omega), rfl⟩) rfl rfl ?_
  refine fM rfl ?_
  refine Run.cond rfl rfl (fun h => ?_) (fun h => ?_)
  · refine fR rfl ?_
    refine Mid.call (exampleHolds_ok H) rfl rfl rfl rfl ?_
    refine fM rfl ?_
    refine Run.fin rfl (EndOk.go ?_); exact .t rfl
  · have h' : largeP s q.here = false ∧ twiceP [] s.joins = false := by simpa using h
    obtain ⟨hl, htw⟩ := h'
    have hS := small_of hl ho
    have hpw : s.joins.Pairwise (fun a b => ¬ sameJ b a = true) := by simpa using twice_pw s.joins [] htw List.Pairwise.nil
    have hg := hS.g
    have hj := hS.j
    have hk := hS.k
    have hh := hS.h
    obtain ⟨F, A, a1, a2, a3, a4⟩ := sol_ex (name := q.name) hS
    obtain ⟨F2, B, b1, b2, b3, b4⟩ := sol_ex (name := q.name) hS.rev
    have hder := der_rev (s := s) (name := q.name) (here := q.here) hpw
    have e1 : levelP s.graphs.length F A q.field = levelP s.rev.graphs.length F2 B q.field := q_ext (a2.nl _) (b2.nl _) fun d => (a2.ql _ d).trans ((hder _ d).trans (b2.ql _ d).symm)
    have e2 : A.take s.graphs.length = B.take s.rev.graphs.length := by
      have hB : B.length = 8 * (s.graphs.length / 8 + 1) := b3
      apply List.ext_getElem
      · simp [Super.rev]; omega
      · intro i i1 i2
        have hi : i < s.graphs.length := by simp at i1; omega
        have : A.getD i 0 = B.getD i 0 := q_ext (a2.na i hi) (b2.na i hi) fun d => (a2.qa i hi d).trans ((hder _ d).trans (b2.qa i hi d).symm)
        simp only [List.getD_eq_getElem?_getD, List.getElem?_eq_getElem (show i < A.length by omega), List.getElem?_eq_getElem (show i < B.length by omega), Option.getD_some] at this
        simpa using this
    have hta := get_ok H a1 q.field
    have htb := get_ok H b1 q.field
    have hga := graphs_ok H a1
    have hgb := graphs_ok H b1
    have hAl : (A.take s.graphs.length).length ≤ 10 := by simp; omega
    rw [← e1] at htb
    rw [← e2] at hgb
    generalize levelP s.graphs.length F A q.field = la at hta htb
    generalize A.take s.graphs.length = A' at hga hgb hAl
    refine fR rfl ?_
    refine lM rfl rfl rfl ?_
    refine s64 rfl rfl rfl ?_
    refine fM rfl ?_
    refine rList s.joins.reverse (fun k (_ : Unit) => { env := [(2, .ptr 0 0), (3, .ptr 1 0), (5, .ptr 2 0), (6, .t (.int .i64 ((s.joins.length : Int) - 1 - (k : Int))))], s := ⟨[(0, .cells [.t (.lst (s.graphs.map sE)), .t s.doc, .t (.lst (s.keys.map KeyO.enc)), .t (.lst (s.joins.map Join.enc))]), (1, .cells [.t (.str q.name), .t (.lst (q.here.map Spot.enc)), .t (.str q.field)]), (2, .cells [.t (.lst (s.graphs.map sE)), .t (.lst []), .nils, .own 3 6 ((s.joins.reverse.take k).map Join.enc)]), (3, .arr (s.joins.reverse.take k).length)], 4⟩ }) (fun r i _ => True) 3 () rfl trivial rfl rfl rfl ?_ ?_
    · intro _ _
      rw [List.take_length]
      refine fR rfl ?_
      refine Run.condF rfl rfl (by simp; omega) ?_
      refine fR rfl ?_
      refine lM rfl rfl rfl ?_
      refine s64 rfl rfl rfl ?_
      refine fM rfl ?_
      refine rList s.keys.reverse (fun k (_ : Unit) => { env := [(2, .ptr 0 0), (3, .ptr 1 0), (5, .ptr 2 0), (7, .t (.int .i64 ((s.keys.length : Int) - 1 - (k : Int))))], s := ⟨[(0, .cells [.t (.lst (s.graphs.map sE)), .t s.doc, .t (.lst (s.keys.map KeyO.enc)), .t (.lst (s.joins.map Join.enc))]), (1, .cells [.t (.str q.name), .t (.lst (q.here.map Spot.enc)), .t (.str q.field)]), (2, .cells [.t (.lst (s.graphs.map sE)), .t (.lst []), .own 3 3 ((s.keys.reverse.take k).map KeyO.enc), .t (.lst (s.joins.reverse.map Join.enc))]), (3, .arr (s.keys.reverse.take k).length)], 4⟩ }) (fun r i _ => True) 3 () rfl trivial rfl rfl rfl ?_ ?_
      · intro _ _
        rw [List.take_length]
        refine fR rfl ?_
        refine Run.condF rfl rfl (by simp; omega) ?_
        refine fR rfl ?_
        refine lM rfl rfl rfl ?_
        refine s64 rfl rfl rfl ?_
        refine fM rfl ?_
        refine rList q.here.reverse (fun k (_ : Unit) => { env := [(2, .ptr 0 0), (3, .ptr 1 0), (5, .ptr 2 0), (8, .own 3 3 ((q.here.reverse.take k).map Spot.enc)), (9, .t (.int .i64 ((q.here.length : Int) - 1 - (k : Int))))], s := ⟨[(0, .cells [.t (.lst (s.graphs.map sE)), .t s.doc, .t (.lst (s.keys.map KeyO.enc)), .t (.lst (s.joins.map Join.enc))]), (1, .cells [.t (.str q.name), .t (.lst (q.here.map Spot.enc)), .t (.str q.field)]), (2, .cells [.t (.lst (s.graphs.map sE)), .t (.lst []), .t (.lst (s.keys.reverse.map KeyO.enc)), .t (.lst (s.joins.reverse.map Join.enc))]), (3, .arr (q.here.reverse.take k).length)], 4⟩ }) (fun r i _ => True) 3 () rfl trivial rfl rfl rfl ?_ ?_
        · intro _ _
          rw [List.take_length]
          refine fR rfl ?_
          refine Run.condF rfl rfl (by simp; omega) ?_
          refine fR rfl ?_
          refine Mid.call (hta) rfl rfl rfl rfl ?_
          refine fM rfl ?_
          refine Mid.call (htb) rfl rfl rfl rfl ?_
          refine fM rfl ?_
          refine caG rfl rfl (fun hg => ⟨_, rfl, hga, rfl⟩) rfl rfl ?_
          refine fM rfl ?_
          refine caG rfl rfl (fun hg => ⟨_, rfl, hgb, rfl⟩) rfl rfl ?_
          skip
          refine caG rfl rfl (fun hg => ⟨_, rfl, numbers_ok H A' A' (by omega) (by omega), rfl⟩) rfl rfl ?_
          refine fM rfl ?_
          refine caG rfl rfl (fun hg => ⟨_, rfl, exampleHolds_ok H, rfl⟩) rfl rfl ?_
          refine fM rfl ?_
          refine Run.fin rfl (EndOk.go ?_); exact .t (by simp)
        · intro k x r _ hk1 hkl hd _ ih
          have hkl' : k < q.here.length := by simpa using hkl
          obtain ⟨i, hi⟩ : ∃ i : Nat, (q.here.length : Int) - 1 - k = i := ⟨_, (Int.toNat_of_nonneg (by omega)).symm⟩
          have hx := rev_at hk1 hkl' hi
          have e9 : (i : Int) - 1 = (q.here.length : Int) - 1 - ((k : Int) + 1) := by omega
          have htk : q.here.reverse.take (k + 1) = q.here.reverse.take k ++ [x] := by rw [List.take_add_one, hk1]; rfl
          have hlen : (q.here.reverse.take k).length ≤ 100 := by simp; omega
          simp only [hi]
          refine fR rfl ?_
          refine Run.condT rfl rfl (by simp) ?_
          refine fR rfl ?_
          refine Mid.elemMap rfl rfl rfl hx rfl rfl ?_
          refine fM rfl ?_
          refine apM Spot.enc (q.here.reverse.take k) [x] rfl rfl rfl rfl rfl ?_
          refine fM rfl ?_
          refine s64 rfl rfl rfl ?_
          refine fM rfl ?_
          rw [← htk]
          exact rWeak 4 rfl (ih () trivial) rfl rfl rfl (he := (by repeat' (first | exact trivial | exact LeX.t | exact LeX.top | exact LeX.nilOwn (Nat.le_of_ble_eq_true rfl) (Nat.le_of_ble_eq_true rfl) | exact LeX.ownT | exact LeX.nilT | exact LeX.same rfl | exact LeX.tEq (by simp[e9]) | exact LeX.ownEq (by simp[e9]) (Nat.le_of_ble_eq_true rfl) | exact LeX.tEq (by congr 1 <;> omega) | exact Or.inr ⟨Nat.le_of_ble_eq_true rfl, Nat.le_of_ble_eq_true rfl, rfl⟩ | refine Or.inl ⟨Nat.le_of_ble_eq_true rfl, _, rfl, ?_⟩ | refine LeO.cells ?_ | exact LeO.arr rfl | exact LeO.arr (by simp[e9]) | exact LeO.mE (by first | rfl | simp[e9]) (by first | exact Or.inl rfl | exact Or.inr rfl) | exact LeO.cE (by first | rfl | simp[e9]) | exact LeXs.cE (by first | rfl | simp[e9]) | refine LeO.map (by first | rfl | simp) ?_ (by first | exact Or.inl rfl | exact Or.inr rfl) | refine LeXs.cons ?_ ?_ | exact LeXs.nil | refine And.intro ?_ ?_))) (hs := (by repeat' (first | exact trivial | exact LeX.t | exact LeX.top | exact LeX.nilOwn (Nat.le_of_ble_eq_true rfl) (Nat.le_of_ble_eq_true rfl) | exact LeX.ownT | exact LeX.nilT | exact LeX.same rfl | exact LeX.tEq (by simp[e9]) | exact LeX.ownEq (by simp[e9]) (Nat.le_of_ble_eq_true rfl) | exact LeX.tEq (by congr 1 <;> omega) | exact Or.inr ⟨Nat.le_of_ble_eq_true rfl, Nat.le_of_ble_eq_true rfl, rfl⟩ | refine Or.inl ⟨Nat.le_of_ble_eq_true rfl, _, rfl, ?_⟩ | refine LeO.cells ?_ | exact LeO.arr rfl | exact LeO.arr (by simp[e9]) | exact LeO.mE (by first | rfl | simp[e9]) (by first | exact Or.inl rfl | exact Or.inr rfl) | exact LeO.cE (by first | rfl | simp[e9]) | exact LeXs.cE (by first | rfl | simp[e9]) | refine LeO.map (by first | rfl | simp) ?_ (by first | exact Or.inl rfl | exact Or.inr rfl) | refine LeXs.cons ?_ ?_ | exact LeXs.nil | refine And.intro ?_ ?_)))
      · intro k x r _ hk1 hkl hd _ ih
        have hkl' : k < s.keys.length := by simpa using hkl
        obtain ⟨i, hi⟩ : ∃ i : Nat, (s.keys.length : Int) - 1 - k = i := ⟨_, (Int.toNat_of_nonneg (by omega)).symm⟩
        have hx := rev_at hk1 hkl' hi
        have e9 : (i : Int) - 1 = (s.keys.length : Int) - 1 - ((k : Int) + 1) := by omega
        have htk : s.keys.reverse.take (k + 1) = s.keys.reverse.take k ++ [x] := by rw [List.take_add_one, hk1]; rfl
        have hlen : (s.keys.reverse.take k).length ≤ 100 := by simp; omega
        simp only [hi]
        refine fR rfl ?_
        refine Run.condT rfl rfl (by simp) ?_
        refine fR rfl ?_
        refine Mid.elemMap rfl rfl rfl hx rfl rfl ?_
        refine fM rfl ?_
        refine apM KeyO.enc (s.keys.reverse.take k) [x] rfl rfl rfl rfl rfl ?_
        refine fM rfl ?_
        refine s64 rfl rfl rfl ?_
        refine fM rfl ?_
        rw [← htk]
        exact rWeak 4 rfl (ih () trivial) rfl rfl rfl (he := (by repeat' (first | exact trivial | exact LeX.t | exact LeX.top | exact LeX.nilOwn (Nat.le_of_ble_eq_true rfl) (Nat.le_of_ble_eq_true rfl) | exact LeX.ownT | exact LeX.nilT | exact LeX.same rfl | exact LeX.tEq (by simp[e9]) | exact LeX.ownEq (by simp[e9]) (Nat.le_of_ble_eq_true rfl) | exact LeX.tEq (by congr 1 <;> omega) | exact Or.inr ⟨Nat.le_of_ble_eq_true rfl, Nat.le_of_ble_eq_true rfl, rfl⟩ | refine Or.inl ⟨Nat.le_of_ble_eq_true rfl, _, rfl, ?_⟩ | refine LeO.cells ?_ | exact LeO.arr rfl | exact LeO.arr (by simp[e9]) | exact LeO.mE (by first | rfl | simp[e9]) (by first | exact Or.inl rfl | exact Or.inr rfl) | exact LeO.cE (by first | rfl | simp[e9]) | exact LeXs.cE (by first | rfl | simp[e9]) | refine LeO.map (by first | rfl | simp) ?_ (by first | exact Or.inl rfl | exact Or.inr rfl) | refine LeXs.cons ?_ ?_ | exact LeXs.nil | refine And.intro ?_ ?_))) (hs := (by repeat' (first | exact trivial | exact LeX.t | exact LeX.top | exact LeX.nilOwn (Nat.le_of_ble_eq_true rfl) (Nat.le_of_ble_eq_true rfl) | exact LeX.ownT | exact LeX.nilT | exact LeX.same rfl | exact LeX.tEq (by simp[e9]) | exact LeX.ownEq (by simp[e9]) (Nat.le_of_ble_eq_true rfl) | exact LeX.tEq (by congr 1 <;> omega) | exact Or.inr ⟨Nat.le_of_ble_eq_true rfl, Nat.le_of_ble_eq_true rfl, rfl⟩ | refine Or.inl ⟨Nat.le_of_ble_eq_true rfl, _, rfl, ?_⟩ | refine LeO.cells ?_ | exact LeO.arr rfl | exact LeO.arr (by simp[e9]) | exact LeO.mE (by first | rfl | simp[e9]) (by first | exact Or.inl rfl | exact Or.inr rfl) | exact LeO.cE (by first | rfl | simp[e9]) | exact LeXs.cE (by first | rfl | simp[e9]) | refine LeO.map (by first | rfl | simp) ?_ (by first | exact Or.inl rfl | exact Or.inr rfl) | refine LeXs.cons ?_ ?_ | exact LeXs.nil | refine And.intro ?_ ?_)))
    · intro k x r _ hk1 hkl hd _ ih
      have hkl' : k < s.joins.length := by simpa using hkl
      obtain ⟨i, hi⟩ : ∃ i : Nat, (s.joins.length : Int) - 1 - k = i := ⟨_, (Int.toNat_of_nonneg (by omega)).symm⟩
      have hx := rev_at hk1 hkl' hi
      have e9 : (i : Int) - 1 = (s.joins.length : Int) - 1 - ((k : Int) + 1) := by omega
      have htk : s.joins.reverse.take (k + 1) = s.joins.reverse.take k ++ [x] := by rw [List.take_add_one, hk1]; rfl
      have hlen : (s.joins.reverse.take k).length ≤ 1000 := by simp; omega
      simp only [hi]
      refine fR rfl ?_
      refine Run.condT rfl rfl (by simp) ?_
      refine fR rfl ?_
      refine Mid.elemMap rfl rfl rfl hx rfl rfl ?_
      refine fM rfl ?_
      refine apM Join.enc (s.joins.reverse.take k) [x] rfl rfl rfl rfl rfl ?_
      refine fM rfl ?_
      refine s64 rfl rfl rfl ?_
      refine fM rfl ?_
      rw [← htk]
      exact rWeak 4 rfl (ih () trivial) rfl rfl rfl (he := (by repeat' (first | exact trivial | exact LeX.t | exact LeX.top | exact LeX.nilOwn (Nat.le_of_ble_eq_true rfl) (Nat.le_of_ble_eq_true rfl) | exact LeX.ownT | exact LeX.nilT | exact LeX.same rfl | exact LeX.tEq (by simp[e9]) | exact LeX.ownEq (by simp[e9]) (Nat.le_of_ble_eq_true rfl) | exact LeX.tEq (by congr 1 <;> omega) | exact Or.inr ⟨Nat.le_of_ble_eq_true rfl, Nat.le_of_ble_eq_true rfl, rfl⟩ | refine Or.inl ⟨Nat.le_of_ble_eq_true rfl, _, rfl, ?_⟩ | refine LeO.cells ?_ | exact LeO.arr rfl | exact LeO.arr (by simp[e9]) | exact LeO.mE (by first | rfl | simp[e9]) (by first | exact Or.inl rfl | exact Or.inr rfl) | exact LeO.cE (by first | rfl | simp[e9]) | exact LeXs.cE (by first | rfl | simp[e9]) | refine LeO.map (by first | rfl | simp) ?_ (by first | exact Or.inl rfl | exact Or.inr rfl) | refine LeXs.cons ?_ ?_ | exact LeXs.nil | refine And.intro ?_ ?_))) (hs := (by repeat' (first | exact trivial | exact LeX.t | exact LeX.top | exact LeX.nilOwn (Nat.le_of_ble_eq_true rfl) (Nat.le_of_ble_eq_true rfl) | exact LeX.ownT | exact LeX.nilT | exact LeX.same rfl | exact LeX.tEq (by simp[e9]) | exact LeX.ownEq (by simp[e9]) (Nat.le_of_ble_eq_true rfl) | exact LeX.tEq (by congr 1 <;> omega) | exact Or.inr ⟨Nat.le_of_ble_eq_true rfl, Nat.le_of_ble_eq_true rfl, rfl⟩ | refine Or.inl ⟨Nat.le_of_ble_eq_true rfl, _, rfl, ?_⟩ | refine LeO.cells ?_ | exact LeO.arr rfl | exact LeO.arr (by simp[e9]) | exact LeO.mE (by first | rfl | simp[e9]) (by first | exact Or.inl rfl | exact Or.inr rfl) | exact LeO.cE (by first | rfl | simp[e9]) | exact LeXs.cE (by first | rfl | simp[e9]) | refine LeO.map (by first | rfl | simp) ?_ (by first | exact Or.inl rfl | exact Or.inr rfl) | refine LeXs.cons ?_ ?_ | exact LeXs.nil | refine And.intro ?_ ?_)))

def strSh : List Sh := [.str]
def spotSh : List Sh := [.int .i64, .int .i64, .lst strSh]
def keySh : List Sh := [.str, .int .i64, .lst strSh]
def joinSh : List Sh := [.str, .str, .int .i64, .bool, .lst strSh, .lst strSh]
def defSh : List Sh := [.int .i64, .str, .any, .any, .any, .any, .any]
def superSh : List Sh := [.lst strSh, .lst defSh, .lst keySh, .lst joinSh]
theorem strs_of {x : T} (h : (Sh.lst strSh).ok x) : ∃ l : List Str, x = .lst (l.map sE) ∧ l.length ≤ 9223372036854775807 := by
  obtain ⟨xs, rfl, hx, hc⟩ := h
  obtain ⟨l, rfl, _⟩ := choose_map (f := sE) (Q := fun _ => True) xs fun c hcm => by
    obtain ⟨x1, ts, rfl, ⟨s, rfl, hs⟩, h6⟩ := Sh.oks_cons (hc c hcm)
    obtain rfl := Sh.oks_nil h6
    exact ⟨s, rfl, trivial⟩
  refine ⟨l, rfl, ?_⟩
  unfold maxLen at hx; simp at hx; omega
theorem spots_of {ts : List T} (h : Sh.oks [.lst spotSh] ts) : ∃ l : List Spot, ts = [.lst (l.map Spot.enc)] ∧ ∀ x ∈ l, x.ok := by
  obtain ⟨x, ts, rfl, ⟨xs, rfl, _, hc⟩, h1⟩ := Sh.oks_cons h
  obtain rfl := Sh.oks_nil h1
  obtain ⟨l, rfl, hl⟩ := choose_map (f := Spot.enc) (Q := Spot.ok) xs fun c hcm => by
    obtain ⟨x1, ts, rfl, ⟨a1, rfl, _⟩, h1⟩ := Sh.oks_cons (hc c hcm)
    obtain ⟨x2, ts, rfl, ⟨a2, rfl, _⟩, h2⟩ := Sh.oks_cons h1
    obtain ⟨x3, ts, rfl, h3, h4⟩ := Sh.oks_cons h2
    obtain ⟨a3, rfl, hl⟩ := strs_of h3
    obtain rfl := Sh.oks_nil h4
    exact ⟨⟨a1, a2, a3⟩, rfl, hl⟩
  exact ⟨l, rfl, hl⟩
theorem super_of {ts : List T} (h : Sh.oks superSh ts) : ∃ s : Super, ts = s.enc := by
  obtain ⟨x1, ts, rfl, h1, g1⟩ := Sh.oks_cons h
  obtain ⟨x2, ts, rfl, _, g2⟩ := Sh.oks_cons g1
  obtain ⟨x3, ts, rfl, ⟨xs3, rfl, _, hc3⟩, g3⟩ := Sh.oks_cons g2
  obtain ⟨x4, ts, rfl, ⟨xs4, rfl, _, hc4⟩, g4⟩ := Sh.oks_cons g3
  obtain rfl := Sh.oks_nil g4
  obtain ⟨gs, rfl, _⟩ := strs_of h1
  obtain ⟨ks, rfl, _⟩ := choose_map (f := KeyO.enc) (Q := fun _ => True) xs3 fun c hcm => by
    obtain ⟨x1, ts, rfl, ⟨a1, rfl, _⟩, h1⟩ := Sh.oks_cons (hc3 c hcm)
    obtain ⟨x2, ts, rfl, ⟨a2, rfl, _⟩, h2⟩ := Sh.oks_cons h1
    obtain ⟨x3, ts, rfl, h3, h4⟩ := Sh.oks_cons h2
    obtain ⟨a3, rfl, _⟩ := strs_of h3
    obtain rfl := Sh.oks_nil h4
    exact ⟨⟨a1, a2, a3⟩, rfl, trivial⟩
  obtain ⟨js, rfl, _⟩ := choose_map (f := Join.enc) (Q := fun _ => True) xs4 fun c hcm => by
    obtain ⟨x1, ts, rfl, ⟨a1, rfl, _⟩, h1⟩ := Sh.oks_cons (hc4 c hcm)
    obtain ⟨x2, ts, rfl, ⟨a2, rfl, _⟩, h2⟩ := Sh.oks_cons h1
    obtain ⟨x3, ts, rfl, ⟨a3, rfl, _⟩, h3⟩ := Sh.oks_cons h2
    obtain ⟨x4, ts, rfl, ⟨a4, rfl⟩, h4⟩ := Sh.oks_cons h3
    obtain ⟨x5, ts, rfl, h5, g5⟩ := Sh.oks_cons h4
    obtain ⟨x6, ts, rfl, h6, g6⟩ := Sh.oks_cons g5
    obtain ⟨a5, rfl, _⟩ := strs_of h5
    obtain ⟨a6, rfl, _⟩ := strs_of h6
    obtain rfl := Sh.oks_nil g6
    exact ⟨⟨a1, a2, a3, a4, a5, a6⟩, rfl, trivial⟩
  exact ⟨⟨gs, x2, ks, js⟩, rfl⟩
theorem str_of {ts : List T} (h : Sh.oks strSh ts) : ∃ s, ts = [.str s] := by
  obtain ⟨x1, ts, rfl, ⟨a1, rfl, _⟩, h1⟩ := Sh.oks_cons h
  obtain rfl := Sh.oks_nil h1
  exact ⟨_, rfl⟩
def askSh : List Sh := [.str, .lst spotSh, .str]
theorem ask_of {ts : List T} (h : Sh.oks askSh ts) : ∃ q : Ask, ts = [.str q.name, .lst (q.here.map Spot.enc), .str q.field] ∧ ∀ x ∈ q.here, x.ok := by
  obtain ⟨x1, ts, rfl, ⟨a1, rfl, _⟩, h1⟩ := Sh.oks_cons h
  obtain ⟨x2, ts, rfl, h2, g2⟩ := Sh.oks_cons h1
  obtain ⟨x3, ts, rfl, ⟨a3, rfl, _⟩, h3⟩ := Sh.oks_cons g2
  obtain rfl := Sh.oks_nil h3
  obtain ⟨l, e, hl⟩ := spots_of (ts := [x2]) ⟨h2, trivial⟩
  cases e
  exact ⟨⟨a1, l, a3⟩, rfl, hl⟩
end Go.GB.C26
