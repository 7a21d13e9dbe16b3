/-
  YtkhekeacdnhkpaaP6: lemmas of this proof (part 6). No conditions.
-/
import Derived.Test.YtkhekeacdnhkpaaP5
import Derived.KernelRfl
import Derived.Test.YtkhekeacdnhkpaaP2
import Derived.Carry
import Derived.Handed
import Derived.ChangeSame
import Derived.ProofKit
import Derived.OpenShut

/-
  D11N: contracts of chapter 11's functions: Faces.
-/
namespace Go.GB.C11
open Go.GB
set_option linter.unusedSimpArgs false
set_option linter.unusedVariables false
set_option maxRecDepth 100000
set_option maxHeartbeats 2000000
variable {P : Program}

def objE (ds : List Def) (pre : List Str) (n : Str) : Int := if (namedF ds n 2 == 0 && decide (n ∈ pre)) = true then 7 else namedF ds n 2
def objL (ds : List Def) (t : Def) : List Str → List Str → List Fault
  | _, [] => []
  | pre, n :: r => (if objE ds pre n = 0 then faceF ds t ((findDef n ds).getD Def.zero).fields else [(⟨objE ds pre n, t.name⟩ : Fault)]) ++ objL ds t (pre ++ [n]) r
def objF (ds : List Def) (t : Def) : List Fault := objL ds t [] t.implements

theorem object_ok (H : Pr P) (ds : List Def) (hD : DocOk ds) (t : Def) (ht : t.Ok) (out : List Fault) (hl : (out ++ objF ds t).length ≤ 4398046511104) :
    FnOk P 106 [.ptr 0 0, t.v] ⟨[(0, .cells [.t (.lst (ds.map Def.enc)), .own 1 2 (out.map Fault.enc)]), (1, .arr out.length)], 2⟩ { v := .tup [], ob := [(0, .cells [.t (.lst (ds.map Def.enc)), .own 1 2 ((out ++ objF ds t).map Fault.enc)]), (1, .arr (out ++ objF ds t).length)], rd := true } := by
  have hil := ht.il
  unfold objF at hl ⊢
  generalize hT : out ++ objL ds t [] t.implements = tot at hl
  refine FnOk.run H.i106 H.mixed rfl rfl ?_
  refine fR rfl ?_
  refine lM rfl rfl rfl ?_
  refine fM rfl ?_
  refine rList t.implements (fun i (B : List Fault) => { env := [(0, .ptr 0 0), (3, .ptr 2 0), (10, .t (.lst (t.implements.map sE))), (11, .t (.int .i64 t.implements.length)), (12, .t (.int .i64 i))], s := ⟨[(0, .cells [.t (.lst (ds.map Def.enc)), .own 1 2 (B.map Fault.enc)]), (1, .arr B.length), (2, .cells [.t (.int .i64 t.kind), .t (.str t.name), .t (.lst (t.implements.map sE)), .t (.lst (t.dirs.map Dir.enc)), .t (.lst (t.fields.map Field.enc)), .t (.lst (t.members.map Member.enc)), .t (.lst (t.inputs.map Input.enc))])], 3⟩ }) (fun r i B => B ++ objL ds t (t.implements.take i) r = tot) 3 out rfl hT rfl rfl rfl ?_ ?_
  · rintro B hB
    obtain rfl : B = tot := by rw [← hB]; simp [objL]
    refine fR rfl ?_
    refine Run.condF rfl rfl (by simp) ?_
    skip
    refine Run.fin rfl (EndOk.chg rfl rfl ?_ ?_)
    · exact .le (.same rfl)
    · exact (by repeat' (first | exact trivial | exact LeX.t | exact LeX.top | exact LeX.nilOwn (Nat.le_of_ble_eq_true rfl) (Nat.le_of_ble_eq_true rfl) | exact LeX.ownT | exact LeX.nilT | exact LeX.same rfl | exact LeX.tEq (by simp) | exact LeX.ownEq (by simp) (Nat.le_of_ble_eq_true rfl) | exact LeX.tEq (by congr 1 <;> omega) | exact Or.inr ⟨Nat.le_of_ble_eq_true rfl, Nat.le_of_ble_eq_true rfl, rfl⟩ | refine Or.inl ⟨Nat.le_of_ble_eq_true rfl, _, rfl, ?_⟩ | refine LeO.cells ?_ | exact LeO.arr rfl | exact LeO.arr (by simp) | exact LeO.mE (by first | rfl | simp) (by first | exact Or.inl rfl | exact Or.inr rfl) | exact LeO.cE (by first | rfl | simp) | exact LeXs.cE (by first | rfl | simp) | refine LeO.map (by first | rfl | simp) ?_ (by first | exact Or.inl rfl | exact Or.inr rfl) | exact LeO.iter (by first | rfl | simp) (Nat.le_of_ble_eq_true rfl) | refine LeXs.cons ?_ ?_ | exact LeXs.nil | refine And.intro ?_ ?_))
  · rintro i n r B h1 hi hd hB ih
    have htk : t.implements.take i ++ [n] = t.implements.take (i + 1) := by rw [List.take_add_one, h1]; rfl
    have hB' : B ++ ((if objE ds (t.implements.take i) n = 0 then faceF ds t ((findDef n ds).getD Def.zero).fields else [(⟨objE ds (t.implements.take i) n, t.name⟩ : Fault)]) ++ objL ds t (t.implements.take (i + 1)) r) = tot := by rw [← htk]; exact hB
    have hlen : B.length + (if objE ds (t.implements.take i) n = 0 then faceF ds t ((findDef n ds).getD Def.zero).fields else [(⟨objE ds (t.implements.take i) n, t.name⟩ : Fault)]).length ≤ 4398046511104 := by
      have := congrArg List.length hB'
      simp only [List.length_append] at this; omega
    have htkl : (t.implements.take i).length ≤ 140737488355328 := by simp; omega
    have hF := docFind hD n
    refine fR rfl ?_
    refine Run.condT rfl rfl (by simp; omega) ?_
    refine fR rfl ?_
    refine Mid.elemMap rfl rfl rfl h1 rfl rfl ?_
    refine fM rfl ?_
    refine Mid.callRd [0, 1] (named_ok H ds hD B n 2) rfl rfl rfl rfl (by simp [stoBd]; simp [AObj.bd, V.bds, V.bd]) (by repeat' (first | exact trivial | exact rfl | refine And.intro ?_ ?_ | exact (congrArg some (AObj.ren_mE _ _ _ _ _ _)).symm | exact (congrArg some (AObj.ren_cE _ _ _)).symm)) rfl ?_
    refine fM rfl ?_
    refine lToG rfl rfl rfl rfl rfl ?_
    refine fM rfl ?_
    refine caG rfl rfl (fun hg => ⟨_, rfl, contains_ok H (t.implements.take i) htkl n, rfl⟩) rfl rfl ?_
    refine fM rfl ?_
    refine Run.cond rfl rfl (fun h7 => ?_) (fun h7 => ?_)
    · refine fR rfl ?_
      have e7 : objE ds (t.implements.take i) n = 7 := by unfold objE; rw [if_pos h7]
      rw [e7] at hB' hlen
      simp at hB' hlen
      refine Run.condT rfl rfl rfl ?_
      refine fR rfl ?_
      refine Mid.callR [0, 1] (add_ok H ds B (by omega) 7 t.name) rfl rfl rfl rfl (by simp [stoBd]; simp [AObj.bd, V.bds, V.bd]) (by repeat' (first | exact trivial | exact rfl | refine And.intro ?_ ?_ | exact (congrArg some (AObj.ren_mE _ _ _ _ _ _)).symm | exact (congrArg some (AObj.ren_cE _ _ _)).symm)) rfl rfl (ob' := [(0, .cells [.t (.lst (ds.map Def.enc)), .own 1 2 ((B ++ [(⟨7, t.name⟩ : Fault)]).map Fault.enc)]), (1, .arr (B ++ [(⟨7, t.name⟩ : Fault)]).length)]) (rfl) rfl rfl ?_
      refine fM rfl ?_
      refine aL rfl rfl rfl rfl rfl ?_
      refine fM rfl ?_
      exact rWeak 3 rfl (ih (B ++ [⟨7, t.name⟩]) (by rw [← hB']; simp)) rfl rfl rfl
    · refine fR rfl ?_
      have e7 : objE ds (t.implements.take i) n = namedF ds n 2 := by unfold objE; rw [if_neg (by rw [show (namedF ds n 2 == 0 && decide (n ∈ t.implements.take i)) = false from h7]; simp)]
      rw [e7] at hB' hlen
      refine Run.cond rfl rfl (fun he => ?_) (fun he => ?_)
      · have he' : ¬ namedF ds n 2 = 0 := by simpa using he
        rw [if_neg he'] at hB' hlen
        simp at hB' hlen
        refine fR rfl ?_
        refine Mid.callR [0, 1] (add_ok H ds B (by omega) (namedF ds n 2) t.name) rfl rfl rfl rfl (by simp [stoBd]; simp [AObj.bd, V.bds, V.bd]) (by repeat' (first | exact trivial | exact rfl | refine And.intro ?_ ?_ | exact (congrArg some (AObj.ren_mE _ _ _ _ _ _)).symm | exact (congrArg some (AObj.ren_cE _ _ _)).symm)) rfl rfl (ob' := [(0, .cells [.t (.lst (ds.map Def.enc)), .own 1 2 ((B ++ [(⟨namedF ds n 2, t.name⟩ : Fault)]).map Fault.enc)]), (1, .arr (B ++ [(⟨namedF ds n 2, t.name⟩ : Fault)]).length)]) (rfl) rfl rfl ?_
        refine fM rfl ?_
        refine aL rfl rfl rfl rfl rfl ?_
        refine fM rfl ?_
        exact rWeak 3 rfl (ih (B ++ [⟨namedF ds n 2, t.name⟩]) (by rw [← hB']; simp)) rfl rfl rfl
      · have he' : namedF ds n 2 = 0 := by simpa using he
        rw [if_pos he'] at hB' hlen
        refine fR rfl ?_
        refine Mid.call (find_ok H ds hD.l n) rfl rfl rfl rfl ?_
        refine fM rfl ?_
        refine Mid.callR [0, 1] (face_ok H ds hD t ((findDef n ds).getD Def.zero) ht hF B (by rw [List.length_append]; omega)) rfl rfl rfl rfl (by simp [stoBd]; simp [AObj.bd, V.bds, V.bd]) (by repeat' (first | exact trivial | exact rfl | refine And.intro ?_ ?_ | exact (congrArg some (AObj.ren_mE _ _ _ _ _ _)).symm | exact (congrArg some (AObj.ren_cE _ _ _)).symm)) rfl rfl (ob' := [(0, .cells [.t (.lst (ds.map Def.enc)), .own 1 2 ((B ++ faceF ds t ((findDef n ds).getD Def.zero).fields).map Fault.enc)]), (1, .arr (B ++ faceF ds t ((findDef n ds).getD Def.zero).fields).length)]) (rfl) rfl rfl ?_
        refine fM rfl ?_
        refine aL rfl rfl rfl rfl rfl ?_
        refine fM rfl ?_
        exact rWeak 3 rfl (ih (B ++ faceF ds t ((findDef n ds).getD Def.zero).fields) (by rw [← hB']; simp)) rfl rfl rfl
end Go.GB.C11

/-
  D11O: contracts of chapter 11's functions: Faces.
-/
namespace Go.GB.C11
open Go.GB
set_option linter.unusedSimpArgs false
set_option linter.unusedVariables false
set_option maxRecDepth 100000
set_option maxHeartbeats 2000000
variable {P : Program}

theorem faces1_ok (H : Pr P) (x m : Member) : FnOk P 109 [.agg [.t (.str x.name), .t (.lst (x.dirs.map Dir.enc))], .ptr 0 0] ⟨[(0, .cells [.t (.str m.name), .t (.lst (m.dirs.map Dir.enc))])], 1⟩ { v := .t (.bool (x.name == m.name)), rd := true } := by
  refine FnOk.run H.i109 H.mixed rfl rfl ?_
  refine fR rfl ?_
  refine Run.fin rfl (EndOk.sameX rfl rfl rfl (by first | exact rfl | exact nSto_bd | exact tSto_bd) (.t (rfl)))
def idxM (p : Member → Bool) : Int → List Member → Int
  | _, [] => -1
  | i, b :: l => if p b = true then i else idxM p (i + 1) l
theorem idxM_ge (p : Member → Bool) : ∀ (l : List Member) (i : Int), 0 ≤ i → decide (idxM p i l ≥ 0) = l.any p
  | [], i, h => by simp [idxM]
  | b :: l, i, h => by
    have ih := idxM_ge p l (i + 1) (by omega)
    by_cases hp : p b = true
    · simp [idxM, hp, h]
    · have e : idxM p i (b :: l) = idxM p (i + 1) l := by simp only [idxM]; rw [if_neg hp]
      rw [e, ih]; simp [hp]
theorem indexFuncM_ok (H : Pr P) (m : Member) (l : List Member) (hl : l.length ≤ 140737488355328) : FnOk P 156 [.t (.lst (l.map Member.enc)), .fn 109 [(0, 0)]] ⟨[(0, .cells [.t (.str m.name), .t (.lst (m.dirs.map Dir.enc))])], 1⟩ { v := .t (.int .i64 (idxM (fun x => x.name == m.name) 0 l)), rd := true } := by
  refine FnOk.run H.i156 H.mixed rfl rfl ?_
  refine fR rfl ?_
  refine lM rfl rfl rfl ?_
  refine fM rfl ?_
  refine rList l (fun i (_ : Unit) => { env := [(0, .t (.lst (l.map Member.enc))), (1, .fn 109 [(0, 0)]), (7, .t (.int .i64 l.length)), (8, .t (.int .i64 i))], s := ⟨[(0, .cells [.t (.str m.name), .t (.lst (m.dirs.map Dir.enc))])], 1⟩ }) (fun r i _ => idxM (fun x => x.name == m.name) 0 l = idxM (fun x => x.name == m.name) i r) 1 () rfl rfl rfl rfl rfl ?_ ?_
  · intro _ hinv
    refine fR rfl ?_
    refine Run.condF rfl rfl (by simp) ?_
    refine fR rfl ?_
    refine Run.fin rfl (EndOk.sameX rfl rfl rfl (by first | exact rfl | exact nSto_bd | exact tSto_bd) (.t ((by rw [hinv]; rfl))))
  · intro i x r _ h1 hi hd hinv ih
    refine fR rfl ?_
    refine Run.condT rfl rfl (by simp; omega) ?_
    refine fR rfl ?_
    refine Mid.elemMap rfl rfl rfl h1 rfl rfl ?_
    refine fM rfl ?_
    refine Mid.callvS rfl (faces1_ok H x m) rfl rfl rfl rfl ?_
    refine fM rfl ?_
    refine Run.cond rfl rfl (fun hc => ?_) (fun hc => ?_)
    · refine fR rfl ?_
      refine Run.fin rfl (EndOk.sameX rfl rfl rfl (by first | exact rfl | exact nSto_bd | exact tSto_bd) (.t ((by rw [hinv]; simp only [idxM]; rw [if_pos hc]))))
    · refine fR rfl ?_
      refine aL rfl rfl rfl rfl rfl ?_
      refine fM rfl ?_
      have h' : ¬ (x.name == m.name) = true := by rw [hc]; simp
      exact rWeak 1 rfl (ih () (by rw [hinv]; simp only [idxM]; rw [if_neg h']; rfl)) rfl rfl rfl
theorem containsFuncM_ok (H : Pr P) (m : Member) (l : List Member) (hl : l.length ≤ 140737488355328) : FnOk P 108 [.t (.lst (l.map Member.enc)), .fn 109 [(0, 0)]] ⟨[(0, .cells [.t (.str m.name), .t (.lst (m.dirs.map Dir.enc))])], 1⟩ { v := .t (.bool (memF l m.name)), rd := true } := by
  refine FnOk.run H.i108 H.mixed rfl rfl ?_
  refine fR rfl ?_
  refine Mid.callS (indexFuncM_ok H m l hl) rfl rfl (by first | exact rfl | exact nSto_bd | exact tSto_bd) rfl ?_
  refine fM rfl ?_
  refine Run.fin rfl (EndOk.sameX rfl rfl rfl (by first | exact rfl | exact nSto_bd | exact tSto_bd) (.t ((by rw [show memF l m.name = l.any (fun x => x.name == m.name) from rfl, ← idxM_ge (fun x => x.name == m.name) l 0 (by omega)]))))

def unE (ds : List Def) (pre : List Member) (m : Member) : Int := if (namedF ds m.name 1 == 0 && memF pre m.name) = true then 7 else namedF ds m.name 1
def unL (ds : List Def) (t : Def) : List Member → List Member → List Fault
  | _, [] => []
  | pre, m :: r => (if unE ds pre m = 0 then [] else [(⟨unE ds pre m, t.name ++ [46] ++ m.name⟩ : Fault)]) ++ unL ds t (pre ++ [m]) r
def facesL (ds : List Def) : List Def → List Fault
  | [] => []
  | t :: r => (if t.kind = 1 then objF ds t else if t.kind = 3 then unL ds t [] t.members else []) ++ facesL ds r
def facesF (ds : List Def) : List Fault := facesL ds ds

theorem faces_ok (H : Pr P) (ds : List Def) (hD : DocOk ds) (hl : (facesF ds).length ≤ 4398046511104) : FnOk P 56 [docV ds] ⟨[], 0⟩ { v := .t (.lst ((facesF ds).map Fault.enc)) } := by
  have hdl := hD.l
  unfold facesF at hl ⊢
  generalize hT : facesL ds ds = tot at hl
  refine FnOk.run H.i56 H.mixed rfl rfl ?_
  refine fR rfl ?_
  refine lM rfl rfl rfl ?_
  refine fM rfl ?_
  refine rList ds (fun i (B : List Fault) => { env := [(3, .ptr 1 0), (13, .t (.lst (ds.map Def.enc))), (14, .t (.int .i64 ds.length)), (15, .t (.int .i64 i))], s := ⟨[(0, .cells [.t (.lst (ds.map Def.enc))]), (1, .cells [.t (.lst (ds.map Def.enc)), .own 2 2 (B.map Fault.enc)]), (2, .arr B.length)], 3⟩ }) (fun r i B => B ++ facesL ds r = tot) 2 [] rfl (by simpa using hT) rfl rfl rfl ?_ ?_
  · rintro B hB
    obtain rfl : B = tot := by rw [← hB]; simp [facesL]
    refine fR rfl ?_
    refine Run.condF rfl rfl (by simp) ?_
    refine fR rfl ?_
    refine Run.fin rfl (EndOk.go ?_); exact .own rfl
  · rintro i t r B h1 hi hd hB ih
    have ht := hD.d t (List.mem_of_getElem? h1)
    have hml := ht.ml
    have htn := ht.nm
    have hlen := congrArg List.length hB
    simp only [List.length_append] at hlen
    refine fR rfl ?_
    refine Run.condT rfl rfl (by simp; omega) ?_
    refine fR rfl ?_
    refine Mid.elemMap rfl rfl rfl h1 rfl rfl ?_
    refine fM rfl ?_
    refine Run.cond rfl rfl (fun hk => ?_) (fun hk => ?_)
    · have hk' : t.kind = 1 := by simpa using hk
      simp only [facesL] at hB hlen
      rw [if_pos hk'] at hB hlen
      simp only [List.length_append] at hlen
      refine fR rfl ?_
      refine Mid.callR [1, 2] (object_ok H ds hD t ht B (by rw [List.length_append]; omega)) rfl rfl rfl rfl (by simp [stoBd]; simp [AObj.bd, V.bds, V.bd]) (by repeat' (first | exact trivial | exact rfl | refine And.intro ?_ ?_ | exact (congrArg some (AObj.ren_mE _ _ _ _ _ _)).symm | exact (congrArg some (AObj.ren_cE _ _ _)).symm)) rfl rfl (ob' := [(1, .cells [.t (.lst (ds.map Def.enc)), .own 2 2 ((B ++ objF ds t).map Fault.enc)]), (2, .arr (B ++ objF ds t).length)]) (rfl) rfl rfl ?_
      refine fM rfl ?_
      refine aL rfl rfl rfl rfl rfl ?_
      refine fM rfl ?_
      exact rWeak 3 rfl (ih (B ++ objF ds t) (by rw [← hB]; simp)) rfl rfl rfl
    · have hk' : ¬ t.kind = 1 := by simpa using hk
      simp only [facesL] at hB hlen
      rw [if_neg hk'] at hB hlen
      simp only [List.length_append] at hlen
      refine fR rfl ?_
      refine Run.cond rfl rfl (fun hk3 => ?_) (fun hk3 => ?_)
      · have hk3' : t.kind = 3 := by simpa using hk3
        rw [if_pos hk3'] at hB hlen
        refine fR rfl ?_
        refine lM rfl rfl rfl ?_
        refine fM rfl ?_
        refine rList t.members (fun j (C : List Fault) => { env := [(3, .ptr 1 0), (5, .ptr 3 0), (13, .t (.lst (ds.map Def.enc))), (14, .t (.int .i64 ds.length)), (15, .t (.int .i64 i)), (29, .t (.lst (t.members.map Member.enc))), (30, .t (.int .i64 t.members.length)), (31, .t (.int .i64 j))], s := ⟨[(0, .cells [.t (.lst (ds.map Def.enc))]), (1, .cells [.t (.lst (ds.map Def.enc)), .own 2 2 (C.map Fault.enc)]), (2, .arr C.length), (3, .cells [.t (.int .i64 t.kind), .t (.str t.name), .t (.lst (t.implements.map sE)), .t (.lst (t.dirs.map Dir.enc)), .t (.lst (t.fields.map Field.enc)), .t (.lst (t.members.map Member.enc)), .t (.lst (t.inputs.map Input.enc))])], 4⟩ }) (fun r2 j C => C ++ (unL ds t (t.members.take j) r2 ++ facesL ds r) = tot) 4 B rfl (by rw [← hB]; simp) rfl rfl rfl ?_ ?_
        · rintro C hC
          refine fR rfl ?_
          refine Run.condF rfl rfl (by simp) ?_
          refine fR rfl ?_
          refine aL rfl rfl rfl rfl rfl ?_
          refine fM rfl ?_
          exact rWeak 3 rfl (ih C (by simpa [unL] using hC)) rfl rfl rfl
        · rintro j m r2 C h2 hj hjd hC ih2
          have hmo := ht.m m (List.mem_of_getElem? h2)
          have hmn := hmo.nm
          have htk : t.members.take j ++ [m] = t.members.take (j + 1) := by rw [List.take_add_one, h2]; rfl
          have htkl : (t.members.take j).length ≤ 140737488355328 := by simp; omega
          simp only [unL, htk] at hC
          have hlen2 := congrArg List.length hC
          simp only [List.length_append] at hlen2
          refine fR rfl ?_
          refine Run.condT rfl rfl (by simp; omega) ?_
          refine fR rfl ?_
          refine Mid.elemMap rfl rfl rfl h2 rfl rfl ?_
          refine fM rfl ?_
          refine Mid.callRd [1, 2] (named_ok H ds hD C m.name 1) rfl rfl rfl rfl (by simp [stoBd]; simp [AObj.bd, V.bds, V.bd]) (by repeat' (first | exact trivial | exact rfl | refine And.intro ?_ ?_ | exact (congrArg some (AObj.ren_mE _ _ _ _ _ _)).symm | exact (congrArg some (AObj.ren_cE _ _ _)).symm)) rfl ?_
          refine fM rfl ?_
          refine lToG rfl rfl rfl rfl rfl ?_
          refine fM rfl ?_
          generalize hb : (namedF ds m.name 1 == 0) = bb
          cases bb
          · have e : unE ds (t.members.take j) m = namedF ds m.name 1 := by unfold unE; rw [if_neg (by rw [hb]; simp)]
            have hnz : ¬ namedF ds m.name 1 = 0 := by simpa using hb
            rw [e, if_neg hnz] at hC hlen2
            simp only [List.length_cons, List.length_nil] at hlen2
            refine Mid.grdF rfl rfl rfl rfl rfl ?_
            refine fM rfl ?_
            refine Run.condF rfl rfl rfl ?_
            refine fR rfl ?_
            refine Run.condT rfl rfl (by simpa using hnz) ?_
            refine fR rfl ?_
            refine pu rfl ?_
            refine fM rfl ?_
            refine pu rfl ?_
            refine Mid.callR [1, 2] (add_ok H ds C (by omega) (namedF ds m.name 1) (t.name ++ [46] ++ m.name)) rfl rfl rfl rfl (by simp [stoBd]; simp [AObj.bd, V.bds, V.bd]) (by repeat' (first | exact trivial | exact rfl | refine And.intro ?_ ?_ | exact (congrArg some (AObj.ren_mE _ _ _ _ _ _)).symm | exact (congrArg some (AObj.ren_cE _ _ _)).symm)) rfl rfl (ob' := [(1, .cells [.t (.lst (ds.map Def.enc)), .own 2 2 ((C ++ [(⟨namedF ds m.name 1, t.name ++ [46] ++ m.name⟩ : Fault)]).map Fault.enc)]), (2, .arr (C ++ [(⟨namedF ds m.name 1, t.name ++ [46] ++ m.name⟩ : Fault)]).length)]) (rfl) rfl rfl ?_
            refine fM rfl ?_
            refine aL rfl rfl rfl rfl rfl ?_
            refine fM rfl ?_
            exact rWeak 4 rfl (ih2 (C ++ [⟨namedF ds m.name 1, t.name ++ [46] ++ m.name⟩]) (by rw [← hC]; simp)) rfl rfl rfl
          · have hz : namedF ds m.name 1 = 0 := by simpa using hb
            refine Mid.ungd rfl rfl rfl ?_
            refine Mid.callRd [4] (containsFuncM_ok H m (t.members.take j) htkl) rfl rfl rfl rfl (by simp [stoBd]; simp [AObj.bd, V.bds, V.bd]) (by repeat' (first | exact trivial | exact rfl | refine And.intro ?_ ?_ | exact (congrArg some (AObj.ren_mE _ _ _ _ _ _)).symm | exact (congrArg some (AObj.ren_cE _ _ _)).symm)) rfl ?_
            refine fM rfl ?_
            refine Run.cond rfl rfl (fun hm => ?_) (fun hm => ?_)
            · have e : unE ds (t.members.take j) m = 7 := by unfold unE; rw [if_pos (by rw [hb, show memF (t.members.take j) m.name = true from hm]; rfl)]
              rw [e, if_neg (by decide)] at hC hlen2
              simp only [List.length_cons, List.length_nil] at hlen2
              refine fR rfl ?_
              refine Run.condT rfl rfl rfl ?_
              refine fR rfl ?_
              refine pu rfl ?_
              refine fM rfl ?_
              refine pu rfl ?_
              refine Mid.callR [1, 2] (add_ok H ds C (by omega) 7 (t.name ++ [46] ++ m.name)) rfl rfl rfl rfl (by simp [stoBd]; simp [AObj.bd, V.bds, V.bd]) (by repeat' (first | exact trivial | exact rfl | refine And.intro ?_ ?_ | exact (congrArg some (AObj.ren_mE _ _ _ _ _ _)).symm | exact (congrArg some (AObj.ren_cE _ _ _)).symm)) rfl rfl (ob' := [(1, .cells [.t (.lst (ds.map Def.enc)), .own 2 2 ((C ++ [(⟨7, t.name ++ [46] ++ m.name⟩ : Fault)]).map Fault.enc)]), (2, .arr (C ++ [(⟨7, t.name ++ [46] ++ m.name⟩ : Fault)]).length)]) (rfl) rfl rfl ?_
              refine fM rfl ?_
              refine aL rfl rfl rfl rfl rfl ?_
              refine fM rfl ?_
              exact rWeak 4 rfl (ih2 (C ++ [⟨7, t.name ++ [46] ++ m.name⟩]) (by rw [← hC]; simp)) rfl rfl rfl
            · have e : unE ds (t.members.take j) m = 0 := by unfold unE; rw [if_neg (by rw [show memF (t.members.take j) m.name = false from hm]; simp)]; exact hz
              rw [e, if_pos rfl] at hC
              refine fR rfl ?_
              refine Run.condF rfl rfl (by rw [hz]; rfl) ?_
              refine fR rfl ?_
              refine aL rfl rfl rfl rfl rfl ?_
              refine fM rfl ?_
              exact rWeak 4 rfl (ih2 C (by rw [← hC]; simp)) rfl rfl rfl
      · have hk3' : ¬ t.kind = 3 := by simpa using hk3
        rw [if_neg hk3'] at hB
        refine fR rfl ?_
        refine aL rfl rfl rfl rfl rfl ?_
        refine fM rfl ?_
        exact rWeak 3 rfl (ih B (by simpa using hB)) rfl rfl rfl
end Go.GB.C11

/-
  D11P: contracts of chapter 11's functions: the examples.
-/
namespace Go.GB.C11
open Go.GB
set_option linter.unusedSimpArgs false
set_option linter.unusedVariables false
set_option maxRecDepth 100000
set_option maxHeartbeats 2000000
variable {P : Program}

def tInt : Str := [73, 110, 116]
def intR (w : List Int) : Ref := ⟨tInt, w⟩
theorem number_ok (H : Pr P) (w : List Int) : FnOk P 86 [.t (.lst (w.map nE))] ⟨[], 0⟩ { v := (intR w).v } := by
  refine FnOk.run H.i86 H.mixed rfl rfl ?_
  refine fR rfl ?_
  refine Run.fin rfl (EndOk.go ?_); exact .agg (.cons (.t rfl) (.cons (.t rfl) .nil))
def tx : Str := [120]
def tA : Str := [65]
def tB : Str := [66]
def tU : Str := [85]
def tI : Str := [73]
def tT : Str := [84]
def exF : Field := ⟨tx, [], intR [], []⟩
def ex1 : List Def := [⟨3, tU, [], [], [], [⟨tB, []⟩, ⟨tA, []⟩], []⟩, ⟨1, tA, [], [], [exF], [], []⟩, ⟨1, tB, [], [], [exF], [], []⟩]
def exG : Field := ⟨tx, [⟨[97], intR [], false, Val.zero, []⟩], intR [1], []⟩
def exH : Field := ⟨tx, [⟨[98], intR [1], false, Val.zero, []⟩], intR [], []⟩
def ex2 : List Def := [⟨2, tI, [], [], [exG], [], []⟩, ⟨1, tT, [tI], [], [exH], [], []⟩]
def exL : List Fault := [⟨10, [84, 46, 120]⟩, ⟨22, [84, 46, 120, 40, 97, 41]⟩, ⟨22, [84, 46, 120, 40, 98, 41]⟩]
def exR5 : Ref := ⟨tA, [1, 2, 1]⟩
def exR6 : Ref := ⟨tU, [2]⟩
theorem ex_p : posF ex1 tU = [tA, tB] := by kernel_rfl
theorem ex_i1 : isF ex1 tA tU = true := by kernel_rfl
theorem ex_i2 : isF ex1 tU tA = false := by kernel_rfl
theorem ex_o1 : ovF ex1 tU tA = true := by kernel_rfl
theorem ex_o2 : ovF ex1 tB tA = false := by kernel_rfl
theorem ex_s1 : subW (subB ex1 tA tU) 5 [1, 2, 1] [2] = true := by kernel_rfl
theorem ex_s2 : subW (subB ex1 tU tA) 5 [2] [1, 2, 1] = false := by kernel_rfl
theorem ex_f1 : facesF ex1 = [] := by kernel_rfl
theorem ex_f2 : facesF ex2 = exL := by kernel_rfl
theorem exF_ok : exF.Ok := ⟨by decide, by simp [exF], ⟨by decide, by decide⟩, by decide, by simp [exF], by decide⟩
theorem exG_ok : exG.Ok := ⟨by decide, by intro y hy; simp [exG] at hy; subst hy; exact ⟨⟨by decide, by decide⟩, Val.zero_ok, by decide, by simp, by decide⟩, ⟨by decide, by decide⟩, by decide, by simp [exG], by decide⟩
theorem exH_ok : exH.Ok := ⟨by decide, by intro y hy; simp [exH] at hy; subst hy; exact ⟨⟨by decide, by decide⟩, Val.zero_ok, by decide, by simp, by decide⟩, ⟨by decide, by decide⟩, by decide, by simp [exH], by decide⟩
theorem ex1_ok : DocOk ex1 := by
  refine ⟨by decide, ?_, by decide⟩
  intro d hd
  simp [ex1] at hd
  rcases hd with rfl | rfl | rfl
  · exact ⟨by decide, by decide, by simp, by decide, by simp, by decide, by intro y hy; simp at hy; rcases hy with rfl | rfl <;> exact ⟨by decide, by simp, by decide⟩, by decide, by simp, by decide, by simp⟩
  · exact ⟨by decide, by decide, by simp, by decide, by intro y hy; simp at hy; subst hy; exact exF_ok, by decide, by simp, by decide, by simp, by decide, by simp⟩
  · exact ⟨by decide, by decide, by simp, by decide, by intro y hy; simp at hy; subst hy; exact exF_ok, by decide, by simp, by decide, by simp, by decide, by simp⟩
theorem ex2_ok : DocOk ex2 := by
  refine ⟨by decide, ?_, by decide⟩
  intro d hd
  simp [ex2] at hd
  rcases hd with rfl | rfl
  · exact ⟨by decide, by decide, by simp, by decide, by intro y hy; simp at hy; subst hy; exact exG_ok, by decide, by simp, by decide, by simp, by decide, by simp⟩
  · exact ⟨by decide, by decide, by simp, by decide, by intro y hy; simp at hy; subst hy; exact exH_ok, by decide, by simp, by decide, by simp, by decide, by intro y hy; simp at hy; subst hy; decide⟩

theorem knows_ok (H : Pr P) : FnOk P 44 [] ⟨[], 0⟩ { v := .t (.bool true) } := by
  have h1 := possible_ok H ex1 ex1_ok tU
  rw [ex_p] at h1
  have h2 := strings_ok H [tA, tB] [tA, tB] (by decide) (by decide)
  have h3 := is_ok H ex1 ex1_ok tA tU
  rw [ex_i1] at h3
  have h4 := is_ok H ex1 ex1_ok tU tA
  rw [ex_i2] at h4
  have h5 := overlap_ok H ex1 ex1_ok tU tA
  rw [ex_o1] at h5
  have h6 := overlap_ok H ex1 ex1_ok tB tA
  rw [ex_o2] at h6
  have h7 := sub_ok H ex1 ex1_ok 5 exR5 exR6 (by decide) ⟨by decide, by decide⟩ ⟨by decide, by decide⟩
  unfold SubC at h7
  rw [show subW (subB ex1 exR5.name exR6.name) 5 exR5.wraps exR6.wraps = true from ex_s1] at h7
  have h8 := sub_ok H ex1 ex1_ok 5 exR6 exR5 (by decide) ⟨by decide, by decide⟩ ⟨by decide, by decide⟩
  unfold SubC at h8
  rw [show subW (subB ex1 exR6.name exR5.name) 5 exR6.wraps exR5.wraps = false from ex_s2] at h8
  have h9 := faces_ok H ex2 ex2_ok (by rw [ex_f2]; decide)
  rw [ex_f2] at h9
  have h10 := faults_ok H exL exL (by decide) (by decide)
  have h11 := faces_ok H ex1 ex1_ok (by rw [ex_f1]; decide)
  rw [ex_f1] at h11
  rw [decide_eq_true rfl] at h2 h10
  refine FnOk.run H.i44 H.mixed rfl rfl ?_
  refine fR rfl ?_
  refine Mid.call (number_ok H []) rfl rfl rfl rfl ?_
  refine Mid.fast (f := 1) rfl trivial ?_
  refine Mid.bslP rfl rfl rfl ?_
  refine Mid.fast (f := 4) rfl trivial ?_
  refine Mid.fast (f := 1) rfl trivial ?_
  refine Mid.bslP rfl rfl rfl ?_
  refine Mid.fast (f := 5) rfl trivial ?_
  refine Mid.bslP rfl rfl rfl ?_
  refine Mid.fast (f := 5) rfl trivial ?_
  refine Mid.bslP rfl rfl rfl ?_
  refine Mid.call (number_ok H [1]) rfl rfl rfl rfl ?_
  refine Mid.call (number_ok H []) rfl rfl rfl rfl ?_
  refine Mid.fast (f := 1) rfl trivial ?_
  refine Mid.bslP rfl rfl rfl ?_
  refine Mid.fast (f := 1) rfl trivial ?_
  refine Mid.bslP rfl rfl rfl ?_
  refine Mid.fast (f := 1) rfl trivial ?_
  refine Mid.bslP rfl rfl rfl ?_
  refine Mid.call (number_ok H []) rfl rfl rfl rfl ?_
  refine Mid.bslP rfl rfl rfl ?_
  refine Mid.call (number_ok H [1]) rfl rfl rfl rfl ?_
  refine Mid.fast (f := 1) rfl trivial ?_
  refine Mid.bslP rfl rfl rfl ?_
  refine Mid.fast (f := 1) rfl trivial ?_
  refine Mid.bslP rfl rfl rfl ?_
  refine Mid.fast (f := 1) rfl trivial ?_
  refine Mid.bslP rfl rfl rfl ?_
  refine Mid.fast (f := 8) rfl trivial ?_
  refine Mid.bslP rfl rfl rfl ?_
  refine Mid.fast (f := 3) rfl trivial ?_
  refine Mid.bslP rfl rfl rfl ?_
  refine Mid.fast (f := 5) rfl trivial ?_
  refine Mid.bslP rfl rfl rfl ?_
  refine fM rfl ?_
  refine Mid.call (h1) rfl rfl rfl rfl ?_
  refine fM rfl ?_
  refine Mid.call (h2) rfl rfl rfl rfl ?_
  refine fM rfl ?_
  refine Mid.ungd rfl rfl rfl ?_
  refine Mid.call (h3) rfl rfl rfl rfl ?_
  refine fM rfl ?_
  refine Mid.ungd rfl rfl rfl ?_
  refine Mid.call (h4) rfl rfl rfl rfl ?_
  refine fM rfl ?_
  refine Mid.ungd rfl rfl rfl ?_
  refine Mid.call (h5) rfl rfl rfl rfl ?_
  refine fM rfl ?_
  refine Mid.ungd rfl rfl rfl ?_
  refine Mid.call (h6) rfl rfl rfl rfl ?_
  refine fM rfl ?_
  refine Mid.ungd rfl rfl rfl ?_
  refine Mid.call (h7) rfl rfl rfl rfl ?_
  refine fM rfl ?_
  refine Mid.ungd rfl rfl rfl ?_
  refine Mid.call (h8) rfl rfl rfl rfl ?_
  refine fM rfl ?_
  refine Mid.ungd rfl rfl rfl ?_
  refine Mid.call (h9) rfl rfl rfl rfl ?_
  refine fM rfl ?_
  refine Mid.ungd rfl rfl rfl ?_
  refine Mid.call (h10) rfl rfl rfl rfl ?_
  refine fM rfl ?_
  refine Mid.ungd rfl rfl rfl ?_
  refine Mid.call (h11) rfl rfl rfl rfl ?_
  refine lMG rfl rfl rfl rfl ?_
  refine fM rfl ?_
  refine Run.fin rfl (EndOk.go ?_); exact .t rfl
end Go.GB.C11

/-
  D11Q: chapter 11's laws: Possible, Sub, Order.
-/
namespace Go.GB.C11
open Go.GB
set_option linter.unusedSimpArgs false
set_option linter.unusedVariables false
set_option maxRecDepth 100000
set_option maxHeartbeats 2000000
variable {P : Program}

theorem rwR {t : Ref} (h : rightF t = true) : RW t.wraps := rw_of (.inr (by
  unfold rightF at h; rw [Bool.and_eq_true] at h; exact h.2))

theorem abstractPossible_ok (H : Pr P) (ds : List Def) (hD : DocOk ds) (n o : Str) : FnOk P 12 [docV ds, .t (.str n), .t (.str o)] ⟨[], 0⟩ { v := .t (.bool true) } := by
  have hlp := posF_len ds n
  have := hD.l
  refine FnOk.run H.i12 H.mixed rfl rfl ?_
  refine fR rfl ?_
  refine Mid.call (large_ok H ds hD) rfl rfl rfl rfl ?_
  refine fM rfl ?_
  refine Run.cond rfl rfl (fun h => ?_) (fun h => ?_)
  · refine fR rfl ?_
    refine Mid.call (knows_ok H) rfl rfl rfl rfl ?_
    refine fM rfl ?_
    refine Run.fin rfl (EndOk.go ?_); exact .t rfl
  · refine fR rfl ?_
    refine Mid.call (possible_ok H ds hD n) rfl rfl rfl rfl ?_
    refine fM rfl ?_
    refine Mid.call (rPossible_ok H ds hD n) rfl rfl rfl rfl ?_
    skip
    refine Mid.call (strings_ok H (posF ds n) (posF ds n) (by omega) (by omega)) rfl rfl rfl rfl ?_
    refine fM rfl ?_
    refine caG rfl rfl (fun hg => ⟨_, rfl, is_ok H ds hD n o, rfl⟩) rfl rfl ?_
    refine fM rfl ?_
    refine caG rfl rfl (fun hg => ⟨_, rfl, rIs_ok H ds hD n o, rfl⟩) rfl rfl ?_
    refine fM rfl ?_
    refine caG rfl rfl (fun hg => ⟨_, rfl, overlap_ok H ds hD n o, rfl⟩) rfl rfl ?_
    refine fM rfl ?_
    refine caG rfl rfl (fun hg => ⟨_, rfl, rOverlap_ok H ds hD n o, rfl⟩) rfl rfl ?_
    refine fM rfl ?_
    refine caG rfl rfl (fun hg => ⟨_, rfl, overlap_ok H ds hD o n, rfl⟩) rfl rfl ?_
    refine fM rfl ?_
    refine caG rfl rfl (fun hg => ⟨_, rfl, overlap_ok H ds hD n o, rfl⟩) rfl rfl ?_
    refine fM rfl ?_
    refine caG rfl rfl (fun hg => ⟨_, rfl, knows_ok H, rfl⟩) rfl rfl ?_
    refine fM rfl ?_
    refine Run.fin rfl (EndOk.go ?_); exact .t (by simp [ovF_comm ds o n])

theorem abstractSub_ok (H : Pr P) (ds : List Def) (hD : DocOk ds) (a b : Ref) (ha : a.Ok) (hb : b.Ok) : FnOk P 13 [docV ds, a.v, b.v] ⟨[], 0⟩ { v := .t (.bool true) } := by
  have hs1 := sub_ok H ds hD (a.wraps.length + b.wraps.length + 1) a b (by omega) ha hb
  have hs2 := rSub_ok H ds hD (a.wraps.length + b.wraps.length + 1) a b (by omega) ha hb
  have hf := fits_ok H (a.wraps.length + b.wraps.length + 1) a b (by omega) ha hb
  unfold SubC at hs1 hs2
  unfold FitC at hf
  refine FnOk.run H.i13 H.mixed rfl rfl ?_
  refine fR rfl ?_
  refine Mid.call (large_ok H ds hD) rfl rfl rfl rfl ?_
  refine fM rfl ?_
  refine caG rfl rfl (fun hg => ⟨_, rfl, right_ok H a ha, rfl⟩) rfl rfl ?_
  refine fM rfl ?_
  refine caG rfl rfl (fun hg => ⟨_, rfl, right_ok H b hb, rfl⟩) rfl rfl ?_
  refine fM rfl ?_
  refine Run.cond rfl rfl (fun h => ?_) (fun h => ?_)
  · refine fR rfl ?_
    refine Mid.call (knows_ok H) rfl rfl rfl rfl ?_
    refine fM rfl ?_
    refine Run.fin rfl (EndOk.go ?_); exact .t rfl
  · have hra : rightF a = true := by revert h; cases rightF a <;> simp
    have hrb : rightF b = true := by revert h; cases rightF b <;> simp
    have key : fitW (a.name == b.name) (a.wraps.length + b.wraps.length + 1) a.wraps b.wraps = true → subW (subB ds a.name b.name) (a.wraps.length + b.wraps.length + 1) a.wraps b.wraps = true := by
      intro hfit
      obtain ⟨h1, h2⟩ := fitW_le _ _ a.wraps b.wraps (rwR hra) (rwR hrb) (by omega) hfit
      rw [subW_eq _ _ _ _ (rwR hra) (rwR hrb) (by omega), h2, show a.name = b.name by simpa using h1, subB_refl]; rfl
    refine fR rfl ?_
    refine Mid.call (hs1) rfl rfl rfl rfl ?_
    refine fM rfl ?_
    refine Mid.call (hs2) rfl rfl rfl rfl ?_
    refine fM rfl ?_
    refine caG rfl rfl (fun hg => ⟨_, rfl, hf, rfl⟩) rfl rfl ?_
    refine fM rfl ?_
    refine caG rfl rfl (fun hg => ⟨_, rfl, hs1, rfl⟩) rfl rfl ?_
    refine fM rfl ?_
    refine caG rfl rfl (fun hg => ⟨_, rfl, knows_ok H, rfl⟩) rfl rfl ?_
    refine fM rfl ?_
    refine Run.fin rfl (EndOk.go ?_); exact .t (by
      generalize hx : fitW (a.name == b.name) (a.wraps.length + b.wraps.length + 1) a.wraps b.wraps = x at key
      generalize hy : subW (subB ds a.name b.name) (a.wraps.length + b.wraps.length + 1) a.wraps b.wraps = y at key
      revert key; cases x <;> cases y <;> simp)

theorem abstractOrder_ok (H : Pr P) (ds : List Def) (hD : DocOk ds) (a b c : Ref) (ha : a.Ok) (hb : b.Ok) (hc : c.Ok) :
    FnOk P 14 [docV ds, .agg [.t (.str a.name), .t (.lst (a.wraps.map nE)), .t (.str b.name), .t (.lst (b.wraps.map nE)), .t (.str c.name), .t (.lst (c.wraps.map nE))]] ⟨[], 0⟩ { v := .t (.bool true) } := by
  have haa := sub_ok H ds hD (a.wraps.length + a.wraps.length + 1) a a (by omega) ha ha
  have hab := sub_ok H ds hD (a.wraps.length + b.wraps.length + 1) a b (by omega) ha hb
  have hbc := sub_ok H ds hD (b.wraps.length + c.wraps.length + 1) b c (by omega) hb hc
  have hac := sub_ok H ds hD (a.wraps.length + c.wraps.length + 1) a c (by omega) ha hc
  unfold SubC at haa hab hbc hac
  refine FnOk.run H.i14 H.mixed rfl rfl ?_
  refine fR rfl ?_
  refine pu rfl ?_
  refine fM rfl ?_
  refine pu rfl ?_
  refine fM rfl ?_
  refine pu rfl ?_
  refine fM rfl ?_
  refine Mid.call (large_ok H ds hD) rfl rfl rfl rfl ?_
  refine fM rfl ?_
  refine caG rfl rfl (fun hg => ⟨_, rfl, right_ok H a ha, rfl⟩) rfl rfl ?_
  refine fM rfl ?_
  refine caG rfl rfl (fun hg => ⟨_, rfl, right_ok H b hb, rfl⟩) rfl rfl ?_
  refine fM rfl ?_
  refine caG rfl rfl (fun hg => ⟨_, rfl, right_ok H c hc, rfl⟩) rfl rfl ?_
  refine fM rfl ?_
  refine Run.cond rfl rfl (fun h => ?_) (fun h => ?_)
  · refine fR rfl ?_
    refine Mid.call (knows_ok H) rfl rfl rfl rfl ?_
    refine fM rfl ?_
    refine Run.fin rfl (EndOk.go ?_); exact .t rfl
  · have hra : rightF a = true := by revert h; cases rightF a <;> simp
    have hrb : rightF b = true := by revert h; cases rightF b <;> simp
    have hrc : rightF c = true := by revert h; cases rightF c <;> simp
    have k1 : subW (subB ds a.name a.name) (a.wraps.length + a.wraps.length + 1) a.wraps a.wraps = true := by
      rw [subW_eq _ _ _ _ (rwR hra) (rwR hra) (by omega), sgLe_refl, subB_refl]; rfl
    have key : subW (subB ds a.name b.name) (a.wraps.length + b.wraps.length + 1) a.wraps b.wraps = true → subW (subB ds b.name c.name) (b.wraps.length + c.wraps.length + 1) b.wraps c.wraps = true → subW (subB ds a.name c.name) (a.wraps.length + c.wraps.length + 1) a.wraps c.wraps = true := by
      rw [subW_eq _ _ _ _ (rwR hra) (rwR hrb) (by omega), subW_eq _ _ _ _ (rwR hrb) (rwR hrc) (by omega), subW_eq _ _ _ _ (rwR hra) (rwR hrc) (by omega)]
      simp only [Bool.and_eq_true]
      rintro ⟨h1, h2⟩ ⟨h3, h4⟩
      exact ⟨sgLe_trans h1 h3, subB_trans h2 h4⟩
    refine fR rfl ?_
    refine Mid.call (haa) rfl rfl rfl rfl ?_
    refine fM rfl ?_
    refine caG rfl rfl (fun hg => ⟨_, rfl, hab, rfl⟩) rfl rfl ?_
    refine fM rfl ?_
    refine caG rfl rfl (fun hg => ⟨_, rfl, hbc, rfl⟩) rfl rfl ?_
    refine fM rfl ?_
    refine caG rfl rfl (fun hg => ⟨_, rfl, hac, rfl⟩) rfl rfl ?_
    refine fM rfl ?_
    refine caG rfl rfl (fun hg => ⟨_, rfl, knows_ok H, rfl⟩) rfl rfl ?_
    refine fM rfl ?_
    refine Run.fin rfl (EndOk.go ?_); exact .t (by
      rw [k1]
      generalize subW (subB ds a.name b.name) (a.wraps.length + b.wraps.length + 1) a.wraps b.wraps = x at key
      generalize subW (subB ds b.name c.name) (b.wraps.length + c.wraps.length + 1) b.wraps c.wraps = y at key
      generalize subW (subB ds a.name c.name) (a.wraps.length + c.wraps.length + 1) a.wraps c.wraps = z at key
      revert key; cases x <;> cases y <;> cases z <;> simp)
end Go.GB.C11

/-
  GbX: what a law is handed, as trees; a law's row from its contract.
-/
namespace Go.GB
open Go.RowKit Go.WideShapes Go.ChangeShapes

abbrev allFix : Nat → Lab := fun _ => .fix none

/-- trees of a type -/
def WT (P : Program) : Nat → TypeId → List T → Prop
  | 0, _, _ => False
  | n + 1, t, ts =>
    match P.underlying t with
    | some .bool => ∃ b, ts = [.bool b]
    | some (.int k) => ∃ x, ts = [.int k x] ∧ (Lit.int k x).wf = true
    | some .string => ∃ s, ts = [.str s] ∧ s.length ≤ reachBytes
    | some (.slice e) => ∃ xs, ts = [.lst xs] ∧ xs.length * P.bytesOf e ≤ reachBytes ∧ xs.length ≤ maxLen ∧ ∀ c ∈ xs, WT P n e c
    | some (.struct fs) => ts.length = P.cellsOf t ∧ ∀ f ∈ fs.toList, WT P n f.type ((ts.drop f.offset).take (P.cellsOf f.type))
    | some (.array m e) => ts.length = P.cellsOf t ∧ ∀ i, i < m → WT P n e ((ts.drop (i * P.cellsOf e)).take (P.cellsOf e))
    | _ => False

/-- places that follow each other: where they end -/
def consec (P : Program) : Nat → List (Nat × TypeId) → Option Nat
  | off, [] => some off
  | off, (o, t) :: r => if o = off then consec P (off + P.cellsOf t) r else none

/-- types of plain data: closed under their parts -/
def plainT (P : Program) (S : List TypeId) : Bool :=
  S.all fun t =>
    match P.underlying t with
    | some .bool => true
    | some (.int _) => true
    | some .string => true
    | some (.slice e) => S.contains e && decide (0 < P.cellsOf e)
    | some (.struct fs) => (fs.toList.all fun f => S.contains f.type) && (consec P 0 (fs.toList.map fun f => (f.offset, f.type)) == some (P.cellsOf t))
    | some (.array m e) => S.contains e && (consec P 0 ((List.range m).map fun i => (i * P.cellsOf e, e)) == some (P.cellsOf t))
    | _ => false

def RepL (w : World) (cs : List Value) (ts : List T) : Prop := cs.length = ts.length ∧ ∀ (j : Nat) (v : Value) (x : T), cs[j]? = some v → ts[j]? = some x → RepT allFix w v x

theorem RepL.one {w : World} {v : Value} {x : T} (h : RepT allFix w v x) : RepL w [v] [x] := by
  refine ⟨rfl, fun j u y h1 h2 => ?_⟩
  cases j with
  | zero => simp at h1 h2; subst h1; subst h2; exact h
  | succ j => simp at h1

theorem mapM_at {α β : Type} {g : α → Option β} : ∀ {l : List α} {r : List β}, l.mapM g = some r → l.length = r.length ∧ ∀ (j : Nat) (x : α), l[j]? = some x → ∃ y, r[j]? = some y ∧ g x = some y
  | [], r, h => by simp at h; subst h; simp
  | a :: l, r, h => by
    simp only [List.mapM_cons, Option.bind_eq_bind, Option.pure_def, Option.bind_eq_some_iff] at h
    obtain ⟨y, hy, r', hr, h⟩ := h
    simp at h; subst h
    obtain ⟨i1, i2⟩ := mapM_at hr
    refine ⟨by simp [i1], fun j x hx => ?_⟩
    cases j with
    | zero => simp at hx; subst hx; exact ⟨y, rfl, hy⟩
    | succ j => simpa using i2 j x (by simpa using hx)

theorem spot_none {w : World} {a : Addr} {v : Value} (h : w.cell? a = some v) : a.spot = none := by
  unfold World.cell? at h
  cases hs : a.spot with
  | none => rfl
  | some s =>
    rw [hs] at h
    split at h <;> simp_all

theorem cells?_at {w : World} {base n : Nat} {a : Addr} {cs : List Value} (h : w.cells? base a n = some cs) : cs.length = n ∧ ∀ (j : Nat) (v : Value), cs[j]? = some v → w.cell? (a.add j) = some v := by
  unfold World.cells? at h
  split at h
  · obtain ⟨h1, h2⟩ := mapM_at h
    simp at h1
    refine ⟨h1.symm, fun j v hj => ?_⟩
    have hlt : j < n := by rw [h1]; exact (List.getElem?_eq_some_iff.1 hj).1
    obtain ⟨y, e1, e2⟩ := h2 j j (by simp [hlt])
    rw [hj] at e1; simp at e1; subst e1; exact e2
  · cases h

/-- a list chosen index by index -/
theorem choose_list {α : Type} {Q : Nat → α → Prop} : ∀ (n : Nat), (∀ j, j < n → ∃ v, Q j v) → ∃ vs : List α, vs.length = n ∧ ∀ (j : Nat) (v : α), vs[j]? = some v → Q j v
  | 0, _ => ⟨[], rfl, by simp⟩
  | n + 1, h => by
    obtain ⟨vs, hl, hv⟩ := choose_list n (fun j hj => h j (by omega))
    obtain ⟨v, hq⟩ := h n (by omega)
    refine ⟨vs ++ [v], by simp [hl], fun j u hu => ?_⟩
    by_cases hj : j < vs.length
    · rw [List.getElem?_append_left hj] at hu; exact hv j u hu
    · rw [List.getElem?_append_right (by omega)] at hu
      by_cases e : j = n
      · subst e; rw [hl] at hu; simp at hu; subst hu; exact hq
      · rw [List.getElem?_eq_none (by simp; omega)] at hu; cases hu

theorem pieces {P : Program} {w : World} {n : Nat} {cs : List Value} : ∀ (l : List (Nat × TypeId)) (off tot : Nat), consec P off l = some tot → tot ≤ cs.length → (∀ p ∈ l, ∃ ts, RepL w ((cs.drop p.1).take (P.cellsOf p.2)) ts ∧ WT P n p.2 ts) →
    off ≤ tot ∧ ∃ ts : List T, ts.length = tot - off ∧ (∀ (j : Nat) (v : Value) (x : T), cs[off + j]? = some v → ts[j]? = some x → RepT allFix w v x) ∧ ∀ p ∈ l, off ≤ p.1 ∧ WT P n p.2 ((ts.drop (p.1 - off)).take (P.cellsOf p.2))
  | [], off, tot, hc, _, _ => by simp [consec] at hc; subst hc; exact ⟨Nat.le_refl _, [], by simp, by simp, by simp⟩
  | (o, t) :: r, off, tot, hc, hl, hp => by
    simp only [consec] at hc
    split at hc
    · rename_i e; subst e
      obtain ⟨h1, ts, h2, h3, h4⟩ := pieces r (o + P.cellsOf t) tot hc hl (fun p hp' => hp p (List.mem_cons_of_mem _ hp'))
      obtain ⟨us, k1, k2⟩ := hp (o, t) (by simp)
      have hul : us.length = P.cellsOf t := by rw [← k1.1]; simp; omega
      refine ⟨by omega, us ++ ts, by simp [hul, h2]; omega, fun j v x hv hx => ?_, fun p hpm => ?_⟩
      · by_cases hj : j < us.length
        · rw [List.getElem?_append_left hj] at hx
          refine k1.2 j v x ?_ hx
          simp only
          rw [List.getElem?_take, if_pos (by omega), List.getElem?_drop]; exact hv
        · rw [List.getElem?_append_right (by omega)] at hx
          refine h3 (j - us.length) v x ?_ hx
          have : o + P.cellsOf t + (j - us.length) = o + j := by omega
          rw [this]; exact hv
      · rcases List.mem_cons.1 hpm with e | e
        · subst e
          refine ⟨Nat.le_refl _, ?_⟩
          simp only [Nat.sub_self, List.drop_zero]
          rw [List.take_append_of_le_length (by omega), List.take_of_length_le (by omega)]
          exact k2
        · obtain ⟨g1, g2⟩ := h4 p e
          refine ⟨by omega, ?_⟩
          have : p.1 - o = us.length + (p.1 - (o + P.cellsOf t)) := by omega
          rw [this, List.drop_append, List.drop_eq_nil_of_le (by omega)]
          simpa using g2
    · cases hc

section
variable {H : Type} {enc : TypeId × Value → H} {P : Program} {w : World} {sp : Nat → Bool} {held : Bool} {S : List TypeId}

theorem weightsAll_of {e : TypeId} {r : Nat → Bool} : ∀ (l : List (DataW H)), (DataW.weightsAll P e l).all r = true → ∀ d ∈ l, (d.weights P e).all r = true
  | [], _, d, h => by cases h
  | x :: l, h, d, hd => by
    simp only [DataW.weightsAll, List.all_append, Bool.and_eq_true] at h
    cases hd with
    | head => exact h.1
    | tail _ hd => exact weightsAll_of l h.2 d hd
theorem weightsEach_of {r : Nat → Bool} : ∀ (ts : List TypeId) (l : List (DataW H)), (DataW.weightsEach P ts l).all r = true → ∀ (j : Nat) t d, ts[j]? = some t → l[j]? = some d → (d.weights P t).all r = true
  | [], l, _, j, t, d, h, _ => by simp at h
  | t :: ts, [], _, j, t', d, _, h => by simp at h
  | t :: ts, x :: l, h, j, t', d, h1, h2 => by
    simp only [DataW.weightsEach, List.all_append, Bool.and_eq_true] at h
    cases j with
    | zero => simp at h1 h2; subst h1; subst h2; exact h.1
    | succ j => exact weightsEach_of ts l h.2 j t' d (by simpa using h1) (by simpa using h2)
theorem trod_rep (hp : plainT P S = true) : ∀ (n : Nat) (t : TypeId) (cs : List Value) (d : DataW H) (ps : List MemPlace), t ∈ S → DataW.trod enc P w 0 sp held n t cs = some (d, ps) → (d.weights P t).all (· ≤ reachBytes) = true → ∃ ts, RepL w cs ts ∧ WT P n t ts
  | 0, t, cs, d, ps, _, h, _ => by simp [DataW.trod] at h
  | n + 1, t, cs, d, ps, ht, h, hwt => by
    have hpt := List.all_eq_true.1 hp t ht
    simp only [WT]
    cases hu : P.underlying t with
    | none => rw [hu] at hpt; simp at hpt
    | some td =>
      rw [hu] at hpt
      cases td with
      | bool =>
        rcases cs with _ | ⟨v, _ | ⟨v2, r⟩⟩ <;> try (simp [DataW.trod, hu] at h; done)
        cases v <;> simp [DataW.trod, hu] at h
        rename_i b
        exact ⟨[.bool b], RepL.one (.bool b), b, rfl⟩
      | int k =>
        rcases cs with _ | ⟨v, _ | ⟨v2, r⟩⟩ <;> try (simp [DataW.trod, hu] at h; done)
        cases v <;> simp [DataW.trod, hu] at h
        rename_i k' x
        obtain ⟨⟨rfl, h2⟩, _⟩ := h
        exact ⟨[.int k' x], RepL.one (.int _ _), x, rfl, h2⟩
      | string =>
        rcases cs with _ | ⟨v, _ | ⟨v2, r⟩⟩ <;> try (simp [DataW.trod, hu] at h; done)
        cases v <;> simp [DataW.trod, hu] at h
        rename_i s
        rw [← h.2.1] at hwt
        exact ⟨[.str s.data.toList], RepL.one (.str _), s.data.toList, rfl, by simpa [DataW.weights] using hwt⟩
      | slice e =>
        simp only [Bool.and_eq_true, decide_eq_true_eq] at hpt
        have he : e ∈ S := by simpa using hpt.1
        rcases cs with _ | ⟨v, _ | ⟨v2, r⟩⟩ <;> try (simp [DataW.trod, hu] at h; done)
        cases v <;> try (simp [DataW.trod, hu] at h; done)
        rename_i a len cap
        cases a with
        | none =>
          have h0 : len = 0 ∧ cap = 0 := by
            cases len <;> cases cap <;> simp_all [DataW.trod]
          obtain ⟨rfl, rfl⟩ := h0
          exact ⟨[.lst []], RepL.one .nil, [], rfl, by simp, by simp, by simp⟩
        | some a =>
          simp only [DataW.trod, hu] at h
          split at h
          · rename_i hcond
            simp only [Option.bind_eq_some_iff] at h
            obtain ⟨elems, hel, hrest⟩ := h
            obtain ⟨hl, hat⟩ := mapM_at hel
            simp at hl
            rw [Option.map_eq_some_iff] at hrest
            obtain ⟨rest, _, hde⟩ := hrest
            simp only [Prod.mk.injEq] at hde
            rw [← hde.1] at hwt
            simp only [DataW.weights, hu, List.all_cons, List.all_append, Bool.and_eq_true, decide_eq_true_eq, List.length_map] at hwt
            have hreach : len * P.bytesOf e ≤ reachBytes := by
              rw [hl]
              exact Nat.le_trans (Nat.mul_le_mul_right _ (Nat.le_add_right _ _)) hwt.1
            have hone : ∀ i, i < len → ∃ q : List Value × List T, w.cells? 0 (a.add (i * P.cellsOf e)) (P.cellsOf e) = some q.1 ∧ RepL w q.1 q.2 ∧ WT P n e q.2 := by
              intro i hi
              obtain ⟨y, hye, hy⟩ := hat i i (by simp [hi])
              simp only [Option.bind_eq_some_iff] at hy
              obtain ⟨c, hc, hy⟩ := hy
              obtain ⟨d', ps'⟩ := y
              obtain ⟨ts, k1, k2⟩ := trod_rep hp n e c d' ps' he hy (weightsAll_of _ hwt.2.1 _ (List.mem_map.2 ⟨(d', ps'), List.mem_of_getElem? hye, rfl⟩))
              exact ⟨(c, ts), hc, k1, k2⟩
            obtain ⟨qs, hql, hq⟩ := choose_list len hone
            have hsz : ∀ (i : Nat) (q : List Value × List T), qs[i]? = some q → q.1.length = P.cellsOf e ∧ q.2.length = P.cellsOf e := by
              intro i q hi
              obtain ⟨h1, h2, _⟩ := hq i q hi
              have := (cells?_at h1).1
              exact ⟨this, by rw [← h2.1]; exact this⟩
            -- the address has no spot, where anything is read
            have hspot : 0 < len → a.spot = none := by
              intro h0
              have hq0 : qs[0]? = some (qs[0]'(by omega)) := by simp
              obtain ⟨h1, _, _⟩ := hq 0 _ hq0
              obtain ⟨e1, e2⟩ := cells?_at h1
              have hlt : 0 < (qs[0]'(by omega)).1.length := by rw [(hsz 0 _ hq0).1]; exact hpt.2
              have := spot_none (e2 0 _ (List.getElem?_eq_getElem hlt))
              simpa [Addr.add] using this
            have hadd : ∀ m, 0 < len → a.add m = ⟨a.block, a.off + m, none⟩ := by
              intro m h0
              have hs := hspot h0
              obtain ⟨b, o, s⟩ := a
              simp at hs; subst hs
              exact add_mk b o m
            refine ⟨[.lst (qs.map (·.2))], RepL.one ?_, qs.map (·.2), rfl, by simpa [hql] using hreach, by simp [hql]; omega, fun c hc => ?_⟩
            · have hlen : len = (qs.map (·.2)).length := by simp [hql]
              rw [hlen]
              refine .lst (some a) cap (P.cellsOf e) (qs.map (·.2)) a.block a.off (fun i j => ((qs.map (·.1)).getD i []).getD j undef) (by rw [← hlen]; exact hcond.2.1) ?_ ?_ ?_ ?_ ?_
              · intro i c hc
                rw [List.getElem?_map, Option.map_eq_some_iff] at hc
                obtain ⟨q, h1, rfl⟩ := hc
                exact (hsz i q h1).2
              · intro i j c x hc hx
                have h0 : 0 < len := by have := (List.getElem?_eq_some_iff.1 hc).1; simp [hql] at this; omega
                have hs := hspot h0
                obtain ⟨b, o, s⟩ := a
                simp at hs; subst hs; rfl
              · intro i j c x hc hx; trivial
              · intro i j c x hc hx
                rw [List.getElem?_map, Option.map_eq_some_iff] at hc
                obtain ⟨q, h1, rfl⟩ := hc
                have h0 : 0 < len := by have := (List.getElem?_eq_some_iff.1 h1).1; omega
                obtain ⟨g1, g2, _⟩ := hq i q h1
                obtain ⟨e1, e2⟩ := cells?_at g1
                have hj : j < q.1.length := by rw [g2.1]; exact (List.getElem?_eq_some_iff.1 hx).1
                have := e2 j _ (List.getElem?_eq_getElem hj)
                rw [hadd _ h0] at this
                rw [add_mk] at this
                rw [this]
                simp [h1, hj]
              · intro i j c x hc hx
                rw [List.getElem?_map, Option.map_eq_some_iff] at hc
                obtain ⟨q, h1, rfl⟩ := hc
                obtain ⟨g1, g2, _⟩ := hq i q h1
                have hj : j < q.1.length := by rw [g2.1]; exact (List.getElem?_eq_some_iff.1 hx).1
                have := g2.2 j _ x (List.getElem?_eq_getElem hj) hx
                simpa [h1, hj] using this
            · rw [List.mem_map] at hc
              obtain ⟨q, h1, rfl⟩ := hc
              obtain ⟨i, hi⟩ := List.mem_iff_getElem?.1 h1
              exact (hq i q hi).2.2
          · cases h
      | struct fs =>
        simp only [Bool.and_eq_true, List.all_eq_true, beq_iff_eq] at hpt
        have hh : cs.length = P.cellsOf t ∧ ∃ xs, (fs.toList.mapM fun f => DataW.trod enc P w 0 sp held n f.type ((cs.drop f.offset).take (P.cellsOf f.type))) = some xs ∧ d = .agg (xs.map (·.1)) := by
          have h' := h
          simp only [DataW.trod, hu] at h'
          split at h'
          · rename_i hc
            simp only [Option.map_eq_some_iff] at h'
            obtain ⟨xs, hxs, hd⟩ := h'
            exact ⟨hc, xs, hxs, by simp only [Prod.mk.injEq] at hd; exact hd.1.symm⟩
          · cases h'
        obtain ⟨hlen, xs, hxs, rfl⟩ := hh
        obtain ⟨hl, hat⟩ := mapM_at hxs
        simp only [DataW.weights, hu] at hwt
        obtain ⟨_, ts, g1, g2, g3⟩ := pieces (n := n) (w := w) (cs := cs) _ 0 _ hpt.2 (by omega) (fun p hpm => by
          rw [List.mem_map] at hpm
          obtain ⟨f, hf, rfl⟩ := hpm
          obtain ⟨j, hj⟩ := List.mem_iff_getElem?.1 hf
          obtain ⟨y, hye, hy⟩ := hat j f hj
          obtain ⟨d', ps'⟩ := y
          exact trod_rep hp n f.type _ d' ps' (by simpa using hpt.1 f hf) hy (weightsEach_of _ _ hwt j f.type d' (by simp [hj]) (by simp [hye])))
        refine ⟨ts, ⟨by omega, fun j v x hv hx => g2 j v x (by simpa using hv) hx⟩, by omega, fun f hf => ?_⟩
        have := (g3 (f.offset, f.type) (List.mem_map.2 ⟨f, hf, rfl⟩)).2
        simpa using this
      | array m e =>
        simp only [Bool.and_eq_true, beq_iff_eq] at hpt
        have hh : cs.length = P.cellsOf t ∧ ∃ xs, ((List.range m).mapM fun i => DataW.trod enc P w 0 sp held n e ((cs.drop (i * P.cellsOf e)).take (P.cellsOf e))) = some xs ∧ d = .agg (xs.map (·.1)) := by
          have h' := h
          simp only [DataW.trod, hu] at h'
          split at h'
          · rename_i hc
            simp only [Option.map_eq_some_iff] at h'
            obtain ⟨xs, hxs, hd⟩ := h'
            exact ⟨hc, xs, hxs, by simp only [Prod.mk.injEq] at hd; exact hd.1.symm⟩
          · cases h'
        obtain ⟨hlen, xs, hxs, rfl⟩ := hh
        obtain ⟨hl, hat⟩ := mapM_at hxs
        simp only [DataW.weights, hu] at hwt
        obtain ⟨_, ts, g1, g2, g3⟩ := pieces (n := n) (w := w) (cs := cs) _ 0 _ hpt.2 (by omega) (fun p hpm => by
          rw [List.mem_map] at hpm
          obtain ⟨i, hi, rfl⟩ := hpm
          obtain ⟨y, hye, hy⟩ := hat i i (by simp [List.mem_range.1 hi])
          obtain ⟨d', ps'⟩ := y
          exact trod_rep hp n e _ d' ps' (by simpa using hpt.1) hy (weightsAll_of _ hwt _ (List.mem_map.2 ⟨(d', ps'), List.mem_of_getElem? hye, rfl⟩)))
        refine ⟨ts, ⟨by omega, fun j v x hv hx => g2 j v x (by simpa using hv) hx⟩, by omega, fun i hi => ?_⟩
        have := (g3 (i * P.cellsOf e, e) (List.mem_map.2 ⟨i, List.mem_range.2 hi, rfl⟩)).2
        simpa using this
      | _ => simp at hpt

/-- an argument as an abstract value -/
def argV (P : Program) (t : TypeId) (ts : List T) : V := if isAggT P t then .agg (ts.map V.t) else .t (ts.headD .nilp)

/-- the world that a law is called in -/
def L.all (w : World) : L := { lab := allFix, fro := fun _ => 0, nxt := 0, w := w }

theorem RelS.all (w : World) : RelS (L.all w) ⟨[], 0⟩ := ⟨by simp [aget], fun b b' k h => by simp [L.all] at h, fun _ _ => rfl, fun b k h => by simp [L.all] at h, fun _ _ => rfl⟩

theorem arg_rel (hp : plainT P S = true) {base : Nat} {t : TypeId} {v : Value} {d : DataW H} {ps : List MemPlace} (ht : t ∈ S) (hok : Value.okWide P w .any base t v) (h : DataW.Trod enc P w 0 sp held t v d ps) (hwt : (d.weights P t).all (· ≤ reachBytes) = true) :
    ∃ n ts, WT P n t ts ∧ RelV (L.all w) v (argV P t ts) := by
  obtain ⟨n, hn⟩ := h
  obtain ⟨ts, h1, h2⟩ := trod_rep hp n t _ d ps ht hn hwt
  refine ⟨n, ts, h2, ?_⟩
  have hpt := List.all_eq_true.1 hp t ht
  unfold argV
  by_cases hag : isAggT P t = true
  · simp only [hag, if_true]
    have : ∃ cs, v = .agg cs := by
      unfold isAggT at hag
      unfold Value.okWide at hok
      cases hu : P.underlying t with
      | none => rw [hu] at hag; simp at hag
      | some td => rw [hu] at hag hok; cases td <;> simp at hag <;> exact ⟨_, hok.choose_spec.1⟩
    obtain ⟨cs, rfl⟩ := this
    refine .agg (by simpa [Value.cells] using h1.1) fun j u c hj hc => ?_
    rw [List.getElem?_map, Option.map_eq_some_iff] at hc
    obtain ⟨x, hx, rfl⟩ := hc
    exact .t (h1.2 j u x (by simpa [Value.cells] using hj) hx)
  · simp only [hag, if_false, Bool.false_eq_true]
    have hcells : v.cells = #[v] := by
      unfold isAggT at hag
      unfold Value.okWide at hok
      cases hu : P.underlying t with
      | none => rw [hu] at hpt; simp at hpt
      | some td =>
        rw [hu] at hag hok hpt
        cases td <;> simp at hag hpt <;> simp only [Cell.okWide, Cell.ok, hu] at hok <;> cases v <;> first | rfl | (exact hok.elim)
    have hcl : ts.length = 1 := by rw [← h1.1, hcells]; rfl
    obtain ⟨x, rfl⟩ : ∃ x, ts = [x] := by
      match ts, hcl with
      | [x], _ => exact ⟨x, rfl⟩
    exact .t (h1.2 0 v x (by rw [hcells]; rfl) rfl)

/-- arguments one by one -/
inductive WTs (P : Program) : List TypeId → List V → Prop
  | nil : WTs P [] []
  | cons {t : TypeId} {ts : List TypeId} {n : Nat} {xs : List T} {vs : List V} (h : WT P n t xs) (r : WTs P ts vs) : WTs P (t :: ts) (argV P t xs :: vs)

theorem args_rel (hp : plainT P S = true) {base : Nat} : ∀ (ts : List TypeId) (args : List Value) (ds : List (DataW H)) (ps : List MemPlace), (∀ t ∈ ts, t ∈ S) → (∀ (j : Nat) t v, ts[j]? = some t → args[j]? = some v → Value.okWide P w .any base t v) →
    DataW.TrodAll enc P w 0 sp held ts args ds ps → (DataW.weightsEach P ts ds).all (· ≤ reachBytes) = true → ∃ vs, WTs P ts vs ∧ args.length = vs.length ∧ ∀ (j : Nat) (v : Value) (x : V), args[j]? = some v → vs[j]? = some x → RelV (L.all w) v x
  | [], [], [], ps, _, _, _, _ => ⟨[], .nil, rfl, by simp⟩
  | t :: ts, v :: args, d :: ds, ps, hS, hok, ⟨p, q, h1, h2, _⟩, hwt => by
    simp only [DataW.weightsEach, List.all_append, Bool.and_eq_true] at hwt
    obtain ⟨vs, k1, k2, k3⟩ := args_rel hp ts args ds q (fun t ht => hS t (List.mem_cons_of_mem _ ht)) (fun j t v a b => hok (j + 1) t v (by simpa using a) (by simpa using b)) h2 hwt.2
    obtain ⟨n, xs, g1, g2⟩ := arg_rel hp (hS t (by simp)) (hok 0 t v rfl rfl) h1 hwt.1
    refine ⟨argV P t xs :: vs, .cons g1 k1, by simp [k2], fun j u x hu hx => ?_⟩
    cases j with
    | zero => simp at hu hx; subst hu; subst hx; exact g2
    | succ j => exact k3 j u x (by simpa using hu) (by simpa using hx)
  | [], _ :: _, _, _, _, _, h, _ => by simp [DataW.TrodAll] at h
  | [], [], _ :: _, _, _, _, h, _ => by simp [DataW.TrodAll] at h
  | _ :: _, [], _, _, _, _, h, _ => by simp [DataW.TrodAll] at h
  | _ :: _, _ :: _, [], _, _, _, h, _ => by simp [DataW.TrodAll] at h

theorem trodAll_stays (hl : laidOutB P = true) {W W' : World} (hb : Below W.heap.size W W') {sp' : Nat → Bool} : ∀ (ts : List TypeId) (vs : List Value) (ds : List (DataW H)) (ps : List MemPlace), (∀ t ∈ ts, P.readableRec t = true ∧ t < P.types.size) → DataW.TrodAll enc P W 0 (fun _ => true) true ts vs ds ps →
    (∀ p ∈ ps, p.block < W.heap.size) → (∀ p ∈ ps, sp' p.block = true) → DataW.TrodAll enc P W' 0 sp' true ts vs ds ps
  | [], [], [], _, _, h, _, _ => h
  | t :: ts, v :: vs, d :: ds, _, hT, ⟨p, q, h1, h2, e⟩, hlt, hs => by
    subst e
    refine ⟨p, q, WideElems.Trod_stays hl (hT t (by simp)).1 (hT t (by simp)).2 h1 (fun x hx => hb.same (hlt x (List.mem_append_left _ hx))) (fun x hx => hs x (List.mem_append_left _ hx)), ?_, rfl⟩
    exact trodAll_stays hl hb ts vs ds q (fun t ht => hT t (List.mem_cons_of_mem _ ht)) h2 (fun x hx => hlt x (List.mem_append_right _ hx)) (fun x hx => hs x (List.mem_append_right _ hx))
  | [], _ :: _, _, _, _, h, _, _ => by simp [DataW.TrodAll] at h
  | [], [], _ :: _, _, _, h, _, _ => by simp [DataW.TrodAll] at h
  | _ :: _, [], _, _, _, h, _, _ => by simp [DataW.TrodAll] at h
  | _ :: _, _ :: _, [], _, _, h, _, _ => by simp [DataW.TrodAll] at h

end

section
variable {H : Type} {enc : TypeId × Value → H} {P : Program}
theorem post_of_below {f : Func} {s : ChangeSpec} {apart fresh handsOn again : Bool} {W W' : World} {args : Array Value} {v : Value} {ds gs : List (DataW H)} {before pa pv : List MemPlace}
    (hW : DataW.Whole enc P f.params.toList s.vars apart W args.toList ds gs before)
    (hres : ∀ (b : Nat) (sp : Nat → Bool) (hd : Bool), DataW.TrodAll enc P W' b sp hd f.resultTypes.toList (v.resultList f.resultTypes.size) (s.fn H (ds ++ gs)).results [])
    (hargs : ∀ sp : Nat → Bool, (∀ p ∈ before, sp p.block = true) → DataW.TrodAll enc P W' 0 sp true f.params.toList args.toList (s.fn H (ds ++ gs)).args pa)
    (hvars : ∀ sp : Nat → Bool, (∀ p ∈ before, sp p.block = true) → DataW.TrodVars enc P W' sp s.vars (s.fn H (ds ++ gs)).vars pv)
    (hps : before = pa ++ pv) (hb : Below W.heap.size W W')
    (hok : ∀ (j : Nat) (t : TypeId) (r : Value), f.resultTypes[j]? = some t → (v.resultList f.resultTypes.size)[j]? = some r → Value.okWide P W' .any 0 t r) :
    s.post enc P f apart fresh handsOn again W args v W' := by
  have hlt : ∀ p ∈ before, p.block < W.heap.size := fun p hp => hW.lt p hp
  have hold : ∀ p ∈ before, (fun b => decide (b < W.heap.size)) p.block = true := fun p hp => by simpa using hlt p hp
  refine ⟨ds, gs, before, [], pa, pv, hW, hres _ _ _, hargs _ hold, hvars _ hold, World.keptBut_mono (fun p hp => ⟨hp, ?_⟩) (hb.frame (· ∈ before)), fun _ => ?_⟩
  · rw [hps, List.mem_append] at hp
    exact Or.inr hp
  · obtain ⟨_, _, _, _, _, hz, hn⟩ := hW
    refine ⟨hok, _, _, ([] ++ pa) ++ pv, ⟨[] ++ pa, pv, trodAll_append (hargs _ (fun _ _ => rfl)) (hres _ _ _), hvars _ (fun _ _ => rfl), rfl, ?_, ?_⟩, ?_⟩
    · intro b off hp
      have hin : MemPlace.cell b off ∈ before := by rw [hps]; simpa using hp
      rw [hb.frozen (hlt _ hin)]
      exact hz b off hin
    · intro ha
      have := hn ha
      rw [hps] at this
      simpa using this
    · intro p hp _
      rw [hps]
      simpa using hp

/-- A law's contract, as its row wants it. -/
theorem law_contract {S : List TypeId} {f : FuncId} {fn : Func} {s : ChangeSpec} {tb : TypeId} {apart fresh handsOn again : Bool} (hp : plainT P S = true) (hl : laidOutB P = true) (hT : ∀ t ∈ fn.params.toList, t ∈ S ∧ P.readableRec t = true ∧ t < P.types.size)
    (hrt : fn.resultTypes = #[tb]) (hb : P.underlying tb = some .bool) (hv : s.vars = []) (hs : ∀ ds : List (DataW H), ds.length = fn.params.size → s.fn H ds = { results := [.lit (.bool true)], args := ds })
    (W : World) (base : Nat) (args : Array Value) (ds gs : List (DataW H)) (before : List MemPlace)
    (hval : ∀ (j : Nat) t v, fn.params[j]? = some t → args[j]? = some v → Value.okWide P W .any base t v)
    (hW : DataW.Whole enc P fn.params.toList s.vars apart W args.toList ds gs before)
    (hwt : (DataW.weightsEach P (fn.params.toList ++ s.plain.varTypes P) (ds ++ gs)).all (· ≤ reachBytes) = true)
    (hok : ∀ vs, WTs P fn.params.toList vs → FnOk P f vs ⟨[], 0⟩ { v := .t (.bool true) }) :
    Calls P f args W fun e W' => ∃ v, e = .returned v ∧ s.post enc P fn apart fresh handsOn again W args v W' := by
  have hW' := hW
  obtain ⟨p, q, hA, hV, rfl, hfz, hnd⟩ := hW
  rw [hv] at hV
  obtain ⟨rfl, rfl⟩ := trodVars_none hV
  have hdl : ds.length = fn.params.size := by
    have : ∀ (ts : List TypeId) (vs : List Value) (ds : List (DataW H)) (ps : List MemPlace), DataW.TrodAll enc P W 0 (fun _ => true) true ts vs ds ps → ds.length = ts.length := by
      intro ts
      induction ts with
      | nil => intro vs ds ps h; cases vs <;> cases ds <;> simp_all [DataW.TrodAll]
      | cons t ts ih =>
        intro vs ds ps h
        cases vs with
        | nil => simp [DataW.TrodAll] at h
        | cons v vs =>
          cases ds with
          | nil => simp [DataW.TrodAll] at h
          | cons d ds => obtain ⟨p, q, _, h2, _⟩ := h; simp [ih vs ds q h2]
    simpa using this _ _ _ _ hA
  have hwt' : (DataW.weightsEach P fn.params.toList ds).all (· ≤ reachBytes) = true := by
    have happ : ∀ (ts us : List TypeId) (ds es : List (DataW H)), ts.length = ds.length → DataW.weightsEach P (ts ++ us) (ds ++ es) = DataW.weightsEach P ts ds ++ DataW.weightsEach P us es := by
      intro ts
      induction ts with
      | nil => intro us ds es h; cases ds with
        | nil => simp [DataW.weightsEach]
        | cons d ds => simp at h
      | cons t ts ih => intro us ds es h; cases ds with
        | nil => simp at h
        | cons d ds => simp only [List.cons_append, DataW.weightsEach, List.append_assoc]; rw [ih us ds es (by simpa using h)]
    rw [happ _ _ _ _ (by simpa using hdl.symm), List.all_append, Bool.and_eq_true] at hwt
    exact hwt.1
  obtain ⟨vs, k1, k2, k3⟩ := args_rel hp _ _ _ _ (fun t ht => (hT t ht).1) (fun j t v a b => hval j t v (by simpa using a) (by simpa using b)) hA hwt'
  refine ((hok vs k1).2 (L.all W) args (RelS.all W) rfl (by simpa using k2) (fun j v x a b => k3 j v x (by simpa using a) b)).mono fun e W' he => ?_
  obtain ⟨v, Λ', rfl, rfl, g1, g2, g3, g4⟩ := he
  have hvt := g4.repT.bool_inv
  subst hvt
  have hbel : Below W.heap.size W Λ'.w := ⟨g1.fr.os, g1.fr.tape, g1.fr.output, g1.fr.size, fun b hb => (g1.fr.fix b hb none rfl).2⟩
  have hsf := hs (ds ++ []) (by simpa using hdl)
  refine ⟨_, rfl, post_of_below (pa := p) (pv := []) (by simpa using hW') ?_ ?_ ?_ (by simp) hbel ?_⟩
  · intro b sp hd
    rw [hsf, hrt]
    exact ⟨[], [], ⟨1, by simp [DataW.trod, hb, Value.cells]⟩, rfl, rfl⟩
  · intro sp hsp
    rw [hsf]
    have hlt : ∀ x ∈ p, x.block < W.heap.size := fun x hx => hW'.lt x (by simpa using hx)
    simpa using trodAll_stays hl hbel _ _ _ _ (fun t ht => (hT t ht).2) hA hlt (fun x hx => hsp x (by simpa using hx))
  · intro sp hsp
    rw [hsf, hv]; rfl
  · intro j t r hj hr
    rw [hrt] at hj
    cases j with
    | zero =>
      simp at hj; subst hj
      simp [hrt, Value.resultList] at hr; subst hr
      simp [Value.okWide, Cell.okWide, Cell.ok, hb]
    | succ j => simp at hj
end
end Go.GB

/-
  GbZA: shapes of plain types: what a law is handed, taken apart.
-/
namespace Go.GB
open Go.RowKit Go.WideShapes Go.ChangeShapes

inductive Sh where
  | bool
  | int (k : IntKind)
  | str
  | lst (b : Nat) (s : List Sh)
  | any
  | num (i : Nat)

/-- fields side by side -/
def joinSh (P : Program) (g : TypeId → Option (List Sh)) : Nat → List (Nat × TypeId) → Option (List Sh)
  | _, [] => some []
  | off, (o, t) :: r =>
    if o = off then
      match g t with
      | some a => if a.length = P.cellsOf t then (joinSh P g (off + P.cellsOf t) r).map fun b => a ++ b else none
      | none => none
    else none

def shOf (P : Program) (sp : TypeId → Option Nat) : Nat → TypeId → Option (List Sh)
  | 0, t =>
    match P.underlying t with
    | some .bool => some [.bool]
    | some (.int k) => some [.int k]
    | some .string => some [.str]
    | some (.slice e) => match sp e with | some i => some [.num i] | none => some [.any]
    | _ => none
  | n + 1, t =>
    match P.underlying t with
    | some .bool => some [.bool]
    | some (.int k) => some [.int k]
    | some .string => some [.str]
    | some (.slice e) => match sp e with | some i => some [.num i] | none => (shOf P sp n e).map fun s => [.lst (P.bytesOf e) s]
    | some (.struct fs) => (joinSh P (shOf P sp n) 0 (fs.toList.map fun f => (f.offset, f.type))).bind fun s => if s.length = P.cellsOf t then some s else none
    | some (.array m e) => (joinSh P (shOf P sp n) 0 ((List.range m).map fun i => (i * P.cellsOf e, e))).bind fun s => if s.length = P.cellsOf t then some s else none
    | _ => none

mutual
/-- a tree of that shape; numbers stand for lists of types that contain themselves -/
def Sh.ok (Y : Nat → T → Prop) : Sh → T → Prop
  | .bool, x => ∃ b, x = .bool b
  | .int k, x => ∃ n, x = .int k n ∧ (Lit.int k n).wf = true
  | .str, x => ∃ s, x = .str s ∧ s.length ≤ reachBytes
  | .lst b sh, x => ∃ xs : List (List T), x = .lst xs ∧ xs.length * b ≤ reachBytes ∧ xs.length ≤ maxLen ∧ ∀ c ∈ xs, Sh.oks Y sh c
  | .any, _ => True
  | .num i, x => Y i x
def Sh.oks (Y : Nat → T → Prop) : List Sh → List T → Prop
  | [], [] => True
  | s :: r, x :: ts => s.ok Y x ∧ Sh.oks Y r ts
  | _, _ => False
end

theorem Sh.oks_append {Y : Nat → T → Prop} : ∀ {a b : List Sh} {ts us : List T}, Sh.oks Y a ts → Sh.oks Y b us → Sh.oks Y (a ++ b) (ts ++ us)
  | [], b, [], us, _, h => h
  | [], b, x :: ts, us, h, _ => by simp [Sh.oks] at h
  | s :: r, b, [], us, h, _ => by simp [Sh.oks] at h
  | s :: r, b, x :: ts, us, h, k => by
    simp only [Sh.oks, List.cons_append] at h ⊢
    exact ⟨h.1, Sh.oks_append h.2 k⟩
theorem Sh.oks_length {Y : Nat → T → Prop} : ∀ {a : List Sh} {ts : List T}, Sh.oks Y a ts → a.length = ts.length
  | [], [], _ => rfl
  | [], x :: ts, h => by simp [Sh.oks] at h
  | s :: r, [], h => by simp [Sh.oks] at h
  | s :: r, x :: ts, h => by
    simp only [Sh.oks] at h
    simp [Sh.oks_length h.2]

theorem joinSh_ok {P : Program} {Y : Nat → T → Prop} {g : TypeId → Option (List Sh)} {n : Nat} (hg : ∀ t sh ts, g t = some sh → WT P n t ts → Sh.oks Y sh ts) : ∀ (l : List (Nat × TypeId)) (off : Nat) (sh : List Sh) (ts : List T), joinSh P g off l = some sh → (∀ p ∈ l, WT P n p.2 ((ts.drop p.1).take (P.cellsOf p.2))) →
    ∃ us, Sh.oks Y sh us ∧ us = (ts.drop off).take sh.length
  | [], off, sh, ts, h, _ => by simp [joinSh] at h; subst h; exact ⟨[], trivial, by simp⟩
  | (o, t) :: r, off, sh, ts, h, hp => by
    simp only [joinSh] at h
    split at h
    · rename_i e; subst e
      split at h
      · rename_i a ha
        split at h
        · rename_i hl
          simp only [Option.map_eq_some_iff] at h
          obtain ⟨b, hb, rfl⟩ := h
          have h1 := hg t a _ ha (hp (o, t) (by simp))
          obtain ⟨us, h2, h3⟩ := joinSh_ok hg r _ b ts hb fun p hpm => hp p (List.mem_cons_of_mem _ hpm)
          refine ⟨_, Sh.oks_append h1 h2, ?_⟩
          simp only at h1 ⊢
          rw [h3, List.length_append, hl, List.take_add, List.drop_drop]
        · cases h
      · cases h
    · cases h

theorem shOf_ok {P : Program} {sp : TypeId → Option Nat} {Y : Nat → T → Prop} : ∀ (n m : Nat) (t : TypeId) (sh : List Sh) (ts : List T), (∀ e i k xs, k < n → sp e = some i → xs.length * P.bytesOf e ≤ reachBytes → xs.length ≤ maxLen → (∀ c ∈ xs, WT P k e c) → Y i (.lst xs)) → shOf P sp m t = some sh → WT P n t ts → Sh.oks Y sh ts
  | 0, m, t, sh, ts, _, _, h => by simp [WT] at h
  | n + 1, 0, t, sh, ts, hsp, hs, h => by
    simp only [shOf] at hs
    simp only [WT] at h
    cases hu : P.underlying t with
    | none => rw [hu] at h; exact h.elim
    | some td =>
      rw [hu] at h hs
      cases td with
      | bool => simp only [Option.some.injEq] at hs h; subst hs; obtain ⟨b, rfl⟩ := h; exact ⟨⟨b, rfl⟩, trivial⟩
      | int k => simp at hs h; subst hs; obtain ⟨x, rfl, hw⟩ := h; exact ⟨⟨x, rfl, hw⟩, trivial⟩
      | string => simp at hs h; subst hs; obtain ⟨s, rfl, hw⟩ := h; exact ⟨⟨s, rfl, hw⟩, trivial⟩
      | slice e =>
        obtain ⟨xs, rfl, hr, hl, hc⟩ := h
        cases he : sp e with
        | none => simp only [he, Option.some.injEq] at hs; subst hs; exact ⟨trivial, trivial⟩
        | some i => simp only [he, Option.some.injEq] at hs; subst hs; exact ⟨hsp e i n xs (by omega) he hr hl hc, trivial⟩
      | _ => simp at hs
  | n + 1, m + 1, t, sh, ts, hsp, hs, h => by
    have hsp' : ∀ e i k xs, k < n → sp e = some i → xs.length * P.bytesOf e ≤ reachBytes → xs.length ≤ maxLen → (∀ c ∈ xs, WT P k e c) → Y i (.lst xs) := fun e i k xs hk => hsp e i k xs (by omega)
    simp only [shOf] at hs
    simp only [WT] at h
    cases hu : P.underlying t with
    | none => rw [hu] at h; exact h.elim
    | some td =>
      rw [hu] at h hs
      cases td with
      | bool => simp only [Option.some.injEq] at hs h; subst hs; obtain ⟨b, rfl⟩ := h; exact ⟨⟨b, rfl⟩, trivial⟩
      | int k => simp at hs h; subst hs; obtain ⟨x, rfl, hw⟩ := h; exact ⟨⟨x, rfl, hw⟩, trivial⟩
      | string => simp at hs h; subst hs; obtain ⟨s, rfl, hw⟩ := h; exact ⟨⟨s, rfl, hw⟩, trivial⟩
      | slice e =>
        obtain ⟨xs, rfl, hr, hl, hc⟩ := h
        cases hse : sp e with
        | none =>
          simp only [hse, Option.map_eq_some_iff] at hs
          obtain ⟨s, he, rfl⟩ := hs
          exact ⟨⟨xs, rfl, hr, hl, fun c hcm => shOf_ok n m e s c hsp' he (hc c hcm)⟩, trivial⟩
        | some i => simp only [hse, Option.some.injEq] at hs; subst hs; exact ⟨hsp e i n xs (by omega) hse hr hl hc, trivial⟩
      | struct fs =>
        simp only [Option.bind_eq_some_iff] at hs h
        obtain ⟨s, hs, hs2⟩ := hs
        split at hs2
        · rename_i hl
          simp at hs2; subst hs2
          obtain ⟨us, h1, h2⟩ := joinSh_ok (ts := ts) (Y := Y) (g := shOf P sp m) (n := n) (fun t sh ts a b => shOf_ok n m t sh ts hsp' a b) _ 0 s hs (fun p hp => by
            rw [List.mem_map] at hp
            obtain ⟨f, hf, rfl⟩ := hp
            exact h.2 f hf)
          rw [List.drop_zero, List.take_of_length_le (by omega)] at h2
          subst h2; exact h1
        · cases hs2
      | array k e =>
        simp only [Option.bind_eq_some_iff] at hs h
        obtain ⟨s, hs, hs2⟩ := hs
        split at hs2
        · rename_i hl
          simp at hs2; subst hs2
          obtain ⟨us, h1, h2⟩ := joinSh_ok (ts := ts) (Y := Y) (g := shOf P sp m) (n := n) (fun t sh ts a b => shOf_ok n m t sh ts hsp' a b) _ 0 s hs (fun p hp => by
            rw [List.mem_map] at hp
            obtain ⟨i, hi, rfl⟩ := hp
            exact h.2 i (List.mem_range.1 hi))
          rw [List.drop_zero, List.take_of_length_le (by omega)] at h2
          subst h2; exact h1
        · cases hs2
      | _ => simp at h

/-- trees one by one -/
theorem Sh.oks_cons {Y : Nat → T → Prop} {s : Sh} {r : List Sh} {ts : List T} (h : Sh.oks Y (s :: r) ts) : ∃ x ts', ts = x :: ts' ∧ s.ok Y x ∧ Sh.oks Y r ts' := by
  cases ts with
  | nil => simp [Sh.oks] at h
  | cons x ts => exact ⟨x, ts, rfl, h⟩
theorem Sh.oks_nil {Y : Nat → T → Prop} {ts : List T} (h : Sh.oks Y [] ts) : ts = [] := by
  cases ts with
  | nil => rfl
  | cons x ts => simp [Sh.oks] at h

/-- a list whose elements are encodings -/
theorem choose_map {α : Type} {f : α → List T} {Q : α → Prop} : ∀ (xs : List (List T)), (∀ c ∈ xs, ∃ a, c = f a ∧ Q a) → ∃ l : List α, xs = l.map f ∧ ∀ a ∈ l, Q a
  | [], _ => ⟨[], rfl, by simp⟩
  | c :: xs, h => by
    obtain ⟨l, h1, h2⟩ := choose_map xs (fun c hc => h c (List.mem_cons_of_mem _ hc))
    obtain ⟨a, rfl, ha⟩ := h c (by simp)
    exact ⟨a :: l, by simp [h1], fun b hb => by
      rcases List.mem_cons.1 hb with e | e
      · subst e; exact ha
      · exact h2 b e⟩

theorem WTs.cons_inv {P : Program} {t : TypeId} {ts : List TypeId} {vs : List V} (h : WTs P (t :: ts) vs) {m : Nat} {sh : List Sh} {sp : TypeId → Option Nat} {Y : Nat → T → Prop} (hsp : ∀ e i n xs, sp e = some i → xs.length * P.bytesOf e ≤ reachBytes → xs.length ≤ maxLen → (∀ c ∈ xs, WT P n e c) → Y i (.lst xs)) (hs : shOf P sp m t = some sh) : ∃ xs r, vs = argV P t xs :: r ∧ Sh.oks Y sh xs ∧ WTs P ts r := by
  cases h with
  | cons h r => exact ⟨_, _, rfl, shOf_ok _ _ _ _ _ (fun e i k xs _ => hsp e i k xs) hs h, r⟩
theorem WTs.nil_inv {P : Program} {vs : List V} (h : WTs P [] vs) : vs = [] := by
  cases h; rfl
theorem argV_agg {P : Program} {t : TypeId} (h : isAggT P t = true) (xs : List T) : argV P t xs = .agg (xs.map V.t) := by simp [argV, h]
theorem argV_one {P : Program} {t : TypeId} (h : isAggT P t = false) (x : T) : argV P t [x] = .t x := by simp [argV, h]

/-- 'law_contract', its facts as Booleans -/
theorem law_ok {H : Type} {enc : TypeId × Value → H} {P : Program} (S : List TypeId) {f : FuncId} {fn : Func} {s : ChangeSpec} {tb : TypeId} {apart fresh handsOn again : Bool} (hp : plainT P S = true) (hl : laidOutB P = true)
    (hT : (fn.params.toList.all fun t => S.contains t && P.readableRec t && decide (t < P.types.size)) = true)
    (hrt : fn.resultTypes = #[tb]) (hb : P.underlying tb = some .bool) (hv : s.vars = []) (hs : ∀ ds : List (DataW H), ds.length = fn.params.size → s.fn H ds = { results := [.lit (.bool true)], args := ds })
    (W : World) (base : Nat) (args : Array Value) (ds gs : List (DataW H)) (before : List MemPlace)
    (hval : ∀ (j : Nat) t v, fn.params[j]? = some t → args[j]? = some v → Value.okWide P W .any base t v)
    (hW : DataW.Whole enc P fn.params.toList s.vars apart W args.toList ds gs before)
    (hwt : (DataW.weightsEach P (fn.params.toList ++ s.plain.varTypes P) (ds ++ gs)).all (· ≤ reachBytes) = true)
    (hok : ∀ vs, WTs P fn.params.toList vs → FnOk P f vs ⟨[], 0⟩ { v := .t (.bool true) }) :
    Calls P f args W fun e W' => ∃ v, e = .returned v ∧ s.post enc P fn apart fresh handsOn again W args v W' := by
  refine law_contract (S := S) hp hl (fun t ht => ?_) hrt hb hv hs W base args ds gs before hval hW hwt hok
  rw [List.all_eq_true] at hT
  have := hT t ht
  simp only [Bool.and_eq_true, decide_eq_true_eq, List.contains_iff_mem] at this
  exact ⟨this.1.1, this.1.2, this.2⟩

theorem len1 {α : Type} {l : List α} (h : l.length = 1) : ∃ a, l = [a] := by
  match l, h with
  | [a], _ => exact ⟨a, rfl⟩
theorem len2 {α : Type} {l : List α} (h : l.length = 2) : ∃ a b, l = [a, b] := by
  match l, h with
  | [a, b], _ => exact ⟨a, b, rfl⟩
theorem len3 {α : Type} {l : List α} (h : l.length = 3) : ∃ a b c, l = [a, b, c] := by
  match l, h with
  | [a, b, c], _ => exact ⟨a, b, c, rfl⟩

theorem arr2 {α : Type} {l : Array α} (h : l.size = 2) : ∃ a b, l = #[a, b] := by
  obtain ⟨l⟩ := l
  obtain ⟨a, b, rfl⟩ := len2 (l := l) (by simpa using h)
  exact ⟨a, b, rfl⟩

/-- a function with a body -/
theorem hasB_of {P : Program} {f : FuncId} {fn : Func} {args : Array Value} {w : World} (h : P.funcs[f]? = some fn) (hb : (fn.body.isSome && !(fn.name == "runtime.NumGoroutine")) = true) : (callFunc f args).run P w = .ok (.enter f args) w := by
  simp only [Bool.and_eq_true, Bool.not_eq_true'] at hb
  obtain ⟨c, hc⟩ := Option.isSome_iff_exists.1 hb.1
  simp only [callFunc]
  simp [program, Sem.run, h, hc]
  have := hb.2
  simp at this
  simp [this]

end Go.GB

/-
  GbSh: what a law is handed, of package api's types.
-/
namespace Go.GB
open Go.RowKit
set_option linter.unusedSimpArgs false
set_option linter.unusedVariables false

def valSh : List Sh := [.int .i64, .int .i64, .str, .num 0, .lst 16 [.str]]
def argSh : List Sh := .str :: valSh
def dirSh : List Sh := [.str, .lst 96 argSh]
def refSh : List Sh := [.str, .lst 8 [.int .i64]]
def inputSh : List Sh := [.str] ++ refSh ++ [.bool] ++ valSh ++ [.lst 40 dirSh]
def fieldSh : List Sh := [.str, .lst 168 inputSh] ++ refSh ++ [.lst 40 dirSh]
def memberSh : List Sh := [.str, .lst 40 dirSh]
def defSh : List Sh := [.int .i64, .str, .lst 16 [.str], .lst 40 dirSh, .lst 104 fieldSh, .lst 40 memberSh, .lst 168 inputSh]
def docSh : List Sh := [.lst 144 defSh]
def pickSh : List Sh := [.str, .str, .str, .lst 96 argSh] ++ refSh ++ [.str, .int .i64, .num 1]
def userSh : List Sh := [.bool, .lst 16 [.str]]
def hopsSh : List Sh := [.lst 32 [.str, .str]]

/-- lists of types that contain themselves -/
def YA : Nat → T → Prop
  | 0, x => ∃ l : List Val, x = .lst (l.map Val.enc) ∧ l.length * 80 ≤ B47 ∧ ∀ v ∈ l, v.Ok
  | _, x => ∃ l : List Pick, x = .lst (l.map Pick.enc) ∧ l.length * 160 ≤ B47 ∧ ∀ p ∈ l, p.Ok ∧ p.on.length ≤ maxLen

theorem reach_le : reachBytes ≤ 140737488355328 := by decide
theorem maxLen_eq : maxLen = 9223372036854775807 := by decide

theorem strs_of {Y : Nat → T → Prop} {x : T} {b : Nat} (h : (Sh.lst b [.str]).ok Y x) : ∃ l : List Str, x = .lst (l.map sE) ∧ l.length * b ≤ reachBytes ∧ ∀ s ∈ l, s.length ≤ reachBytes := by
  obtain ⟨xs, rfl, h1, _, h2⟩ := h
  obtain ⟨l, rfl, h3⟩ := choose_map (f := sE) (Q := fun s => s.length ≤ reachBytes) xs fun c hc => by
    obtain ⟨x, r, rfl, ⟨s, rfl, hs⟩, h⟩ := Sh.oks_cons (h2 c hc)
    obtain rfl := Sh.oks_nil h
    exact ⟨s, rfl, hs⟩
  exact ⟨l, rfl, by simpa using h1, h3⟩
theorem nums_of {Y : Nat → T → Prop} {x : T} {b : Nat} (h : (Sh.lst b [.int .i64]).ok Y x) : ∃ l : List Int, x = .lst (l.map nE) ∧ l.length * b ≤ reachBytes := by
  obtain ⟨xs, rfl, h1, _, h2⟩ := h
  obtain ⟨l, rfl, h3⟩ := choose_map (f := nE) (Q := fun _ => True) xs fun c hc => by
    obtain ⟨x, r, rfl, ⟨s, rfl, hs⟩, h⟩ := Sh.oks_cons (h2 c hc)
    obtain rfl := Sh.oks_nil h
    exact ⟨s, rfl, trivial⟩
  exact ⟨l, rfl, by simpa using h1⟩
theorem list_of {α : Type} {f : α → List T} {Q : α → Prop} {Y : Nat → T → Prop} {x : T} {b : Nat} {sh : List Sh} (hf : ∀ c, Sh.oks Y sh c → ∃ a, c = f a ∧ Q a) (h : (Sh.lst b sh).ok Y x) : ∃ l : List α, x = .lst (l.map f) ∧ l.length * b ≤ reachBytes ∧ l.length ≤ maxLen ∧ ∀ a ∈ l, Q a := by
  obtain ⟨xs, rfl, h1, h0, h2⟩ := h
  obtain ⟨l, rfl, h3⟩ := choose_map (f := f) (Q := Q) xs fun c hc => hf c (h2 c hc)
  exact ⟨l, rfl, by simpa using h1, by simpa using h0, h3⟩

/-- the shape of a value -/
theorem val_sh {r : List Sh} {c : List T} (h : Sh.oks YA (valSh ++ r) c) : ∃ (v : Val) (c' : List T), c = v.cs ++ c' ∧ v.Ok ∧ Sh.oks YA r c' := by
  obtain ⟨x1, c, rfl, ⟨k, rfl, _⟩, g1⟩ := Sh.oks_cons h
  obtain ⟨x2, c, rfl, ⟨i, rfl, _⟩, g2⟩ := Sh.oks_cons g1
  obtain ⟨x3, c, rfl, ⟨t, rfl, ht⟩, g3⟩ := Sh.oks_cons g2
  obtain ⟨x4, c, rfl, ⟨its, rfl, hi1, hi2⟩, g4⟩ := Sh.oks_cons g3
  obtain ⟨x5, c, rfl, hk, g5⟩ := Sh.oks_cons g4
  obtain ⟨ks, rfl, hk1, hk2⟩ := strs_of hk
  have := reach_le
  refine ⟨.mk k i t its ks, c, rfl, .mk hi1 (by unfold B47; omega) hi2 (by omega) (fun x hx => by have := hk2 x hx; omega), g5⟩
theorem val_sh0 {c : List T} (h : Sh.oks YA valSh c) : ∃ v : Val, c = v.enc ∧ v.Ok := by
  obtain ⟨v, c', rfl, h1, h2⟩ := val_sh (r := []) (by simpa using h)
  obtain rfl := Sh.oks_nil h2
  exact ⟨v, by rw [Val.enc_eq, List.append_nil], h1⟩
theorem arg_sh {c : List T} (h : Sh.oks YA argSh c) : ∃ a : Arg, c = a.enc ∧ a.Ok := by
  obtain ⟨x, c, rfl, ⟨n, rfl, _⟩, g1⟩ := Sh.oks_cons h
  obtain ⟨v, c', rfl, h1, h2⟩ := val_sh (r := []) (by simpa using g1)
  obtain rfl := Sh.oks_nil h2
  exact ⟨⟨n, v⟩, by simp [Arg.enc, Val.cs], h1⟩
theorem dir_sh {c : List T} (h : Sh.oks YA dirSh c) : ∃ a : Dir, c = a.enc ∧ a.Ok := by
  have := reach_le
  obtain ⟨x, c, rfl, ⟨n, rfl, hn⟩, g1⟩ := Sh.oks_cons h
  obtain ⟨x, c, rfl, hx, g2⟩ := Sh.oks_cons g1
  obtain rfl := Sh.oks_nil g2
  obtain ⟨l, rfl, h1, _, h2⟩ := list_of (fun c hc => arg_sh hc) hx
  exact ⟨⟨n, l⟩, rfl, ⟨by show l.length ≤ _; omega, h2, by show n.length ≤ _; omega⟩⟩
theorem dirs_sh {b : Nat} (hb : 0 < b) {x : T} (h : (Sh.lst b dirSh).ok YA x) : ∃ l : List Dir, x = .lst (l.map Dir.enc) ∧ l.length ≤ 140737488355328 ∧ ∀ d ∈ l, d.Ok := by
  have := reach_le
  obtain ⟨l, rfl, h1, _, h2⟩ := list_of (fun c hc => dir_sh hc) h
  refine ⟨l, rfl, ?_, h2⟩
  have : l.length ≤ l.length * b := Nat.le_mul_of_pos_right _ hb
  omega
theorem ref_sh {r : List Sh} {c : List T} (h : Sh.oks YA (refSh ++ r) c) : ∃ (v : Ref) (c' : List T), c = .str v.name :: .lst (v.wraps.map nE) :: c' ∧ v.Ok ∧ Sh.oks YA r c' := by
  have := reach_le
  obtain ⟨x1, c, rfl, ⟨n, rfl, hn⟩, g1⟩ := Sh.oks_cons h
  obtain ⟨x5, c, rfl, hk, g2⟩ := Sh.oks_cons g1
  obtain ⟨ks, rfl, hk1⟩ := nums_of hk
  exact ⟨⟨n, ks⟩, c, rfl, ⟨by show ks.length * 8 ≤ _; omega, by show n.length ≤ _; omega⟩, g2⟩
theorem input_sh {c : List T} (h : Sh.oks YA inputSh c) : ∃ a : Input, c = a.enc ∧ a.Ok := by
  have := reach_le
  obtain ⟨x, c, rfl, ⟨n, rfl, hn⟩, g1⟩ := Sh.oks_cons h
  obtain ⟨t, c, rfl, ht, g2⟩ := ref_sh g1
  obtain ⟨x, c, rfl, ⟨b, rfl⟩, g3⟩ := Sh.oks_cons g2
  obtain ⟨v, c, rfl, hv, g4⟩ := val_sh g3
  obtain ⟨x, c, rfl, hx, g5⟩ := Sh.oks_cons g4
  obtain rfl := Sh.oks_nil g5
  obtain ⟨l, rfl, h1, h2⟩ := dirs_sh (by decide) hx
  exact ⟨⟨n, t, b, v, l⟩, by simp [Input.enc, Val.cs], ⟨ht, hv, h1, h2, by show n.length ≤ _; omega⟩⟩
theorem inputs_sh {x : T} (h : (Sh.lst 168 inputSh).ok YA x) : ∃ l : List Input, x = .lst (l.map Input.enc) ∧ l.length ≤ 140737488355328 ∧ ∀ d ∈ l, d.Ok := by
  have := reach_le
  obtain ⟨l, rfl, h1, _, h2⟩ := list_of (fun c hc => input_sh hc) h
  exact ⟨l, rfl, by omega, h2⟩
theorem field_sh {c : List T} (h : Sh.oks YA fieldSh c) : ∃ a : Field, c = a.enc ∧ a.Ok := by
  have := reach_le
  obtain ⟨x, c, rfl, ⟨n, rfl, hn⟩, g1⟩ := Sh.oks_cons h
  obtain ⟨x, c, rfl, hx, g2⟩ := Sh.oks_cons g1
  obtain ⟨ins, rfl, i1, i2⟩ := inputs_sh hx
  obtain ⟨t, c, rfl, ht, g3⟩ := ref_sh g2
  obtain ⟨x, c, rfl, hx, g4⟩ := Sh.oks_cons g3
  obtain rfl := Sh.oks_nil g4
  obtain ⟨l, rfl, h1, h2⟩ := dirs_sh (by decide) hx
  exact ⟨⟨n, ins, t, l⟩, rfl, ⟨i1, i2, ht, h1, h2, by show n.length ≤ _; omega⟩⟩
theorem member_sh {c : List T} (h : Sh.oks YA memberSh c) : ∃ a : Member, c = a.enc ∧ a.Ok := by
  have := reach_le
  obtain ⟨x, c, rfl, ⟨n, rfl, hn⟩, g1⟩ := Sh.oks_cons h
  obtain ⟨x, c, rfl, hx, g2⟩ := Sh.oks_cons g1
  obtain rfl := Sh.oks_nil g2
  obtain ⟨l, rfl, h1, h2⟩ := dirs_sh (by decide) hx
  exact ⟨⟨n, l⟩, rfl, ⟨h1, h2, by show n.length ≤ _; omega⟩⟩
theorem def_sh {c : List T} (h : Sh.oks YA defSh c) : ∃ a : Def, c = a.enc ∧ a.Ok := by
  have := reach_le
  obtain ⟨x, c, rfl, ⟨k, rfl, _⟩, g1⟩ := Sh.oks_cons h
  obtain ⟨x, c, rfl, ⟨n, rfl, hn⟩, g2⟩ := Sh.oks_cons g1
  obtain ⟨x, c, rfl, hx, g3⟩ := Sh.oks_cons g2
  obtain ⟨im, rfl, a1, a2⟩ := strs_of hx
  obtain ⟨x, c, rfl, hx, g4⟩ := Sh.oks_cons g3
  obtain ⟨ds, rfl, b1, b2⟩ := dirs_sh (by decide) hx
  obtain ⟨x, c, rfl, hx, g5⟩ := Sh.oks_cons g4
  obtain ⟨fs, rfl, c1, _, c2⟩ := list_of (fun c hc => field_sh hc) hx
  obtain ⟨x, c, rfl, hx, g6⟩ := Sh.oks_cons g5
  obtain ⟨ms, rfl, d1, _, d2⟩ := list_of (fun c hc => member_sh hc) hx
  obtain ⟨x, c, rfl, hx, g7⟩ := Sh.oks_cons g6
  obtain ⟨is, rfl, e1, e2⟩ := inputs_sh hx
  obtain rfl := Sh.oks_nil g7
  exact ⟨⟨k, n, im, ds, fs, ms, is⟩, rfl, ⟨by show im.length ≤ _; omega, b1, b2, by show fs.length ≤ _; omega, c2, by show ms.length ≤ _; omega, d2, e1, e2, by show n.length ≤ _; omega, fun y hy => by have := a2 y hy; omega⟩⟩
theorem doc_sh {r : List Sh} {c : List T} (h : Sh.oks YA (docSh ++ r) c) : ∃ (l : List Def) (c' : List T), c = .lst (l.map Def.enc) :: c' ∧ DocOk l ∧ Sh.oks YA r c' := by
  have := reach_le
  obtain ⟨x, c, rfl, hx, g1⟩ := Sh.oks_cons h
  obtain ⟨l, rfl, h1, _, h2⟩ := list_of (fun c hc => def_sh hc) hx
  exact ⟨l, c, rfl, ⟨by omega, h2, by omega⟩, g1⟩
theorem user_sh {r : List Sh} {c : List T} (h : Sh.oks YA (userSh ++ r) c) : ∃ (u : User) (c' : List T), c = .bool u.known :: .lst (u.scopes.map sE) :: c' ∧ u.scopes.length ≤ 140737488355328 ∧ Sh.oks YA r c' := by
  have := reach_le
  obtain ⟨x, c, rfl, ⟨k, rfl⟩, g1⟩ := Sh.oks_cons h
  obtain ⟨x, c, rfl, hx, g2⟩ := Sh.oks_cons g1
  obtain ⟨im, rfl, a1, _⟩ := strs_of hx
  exact ⟨⟨k, im⟩, c, rfl, by show im.length ≤ _; omega, g2⟩
theorem hops_sh {r : List Sh} {c : List T} (h : Sh.oks YA (hopsSh ++ r) c) : ∃ (l : List Hop) (c' : List T), c = .lst (l.map Hop.enc) :: c' ∧ l.length ≤ 140737488355328 ∧ Sh.oks YA r c' := by
  have := reach_le
  obtain ⟨x, c, rfl, hx, g1⟩ := Sh.oks_cons h
  obtain ⟨l, rfl, h1, _, h2⟩ := list_of (f := Hop.enc) (Q := fun _ => True) (fun c hc => by
    obtain ⟨x, c, rfl, ⟨a, rfl, _⟩, g2⟩ := Sh.oks_cons hc
    obtain ⟨x, c, rfl, ⟨b, rfl, _⟩, g3⟩ := Sh.oks_cons g2
    obtain rfl := Sh.oks_nil g3
    exact ⟨⟨a, b⟩, rfl, trivial⟩) hx
  exact ⟨l, c, rfl, by omega, g1⟩
theorem pick_sh {c : List T} (h : Sh.oks YA pickSh c) : ∃ p : Pick, c = p.enc ∧ p.Ok ∧ p.on.length ≤ maxLen := by
  have := reach_le
  obtain ⟨x, c, rfl, ⟨k, rfl, _⟩, g1⟩ := Sh.oks_cons h
  obtain ⟨x, c, rfl, ⟨o, rfl, ho⟩, g2⟩ := Sh.oks_cons g1
  obtain ⟨x, c, rfl, ⟨n, rfl, _⟩, g3⟩ := Sh.oks_cons g2
  obtain ⟨x, c, rfl, hx, g4⟩ := Sh.oks_cons g3
  obtain ⟨as, rfl, a1, _, a2⟩ := list_of (fun c hc => arg_sh hc) hx
  obtain ⟨t, c, rfl, ht, g5⟩ := ref_sh g4
  obtain ⟨x, c, rfl, ⟨lb, rfl, _⟩, g6⟩ := Sh.oks_cons g5
  obtain ⟨x, c, rfl, ⟨i, rfl, _⟩, g7⟩ := Sh.oks_cons g6
  obtain ⟨x, c, rfl, ⟨ps, rfl, p1, p2⟩, g8⟩ := Sh.oks_cons g7
  obtain rfl := Sh.oks_nil g8
  exact ⟨.mk k o n as t lb i ps, by rw [Pick.enc_eq]; rfl, .mk (by unfold B47; omega) a2 ht p1 (fun x hx => (p2 x hx).1), Nat.le_trans ho (by decide)⟩

/-- the types that contain themselves -/
def spV (vt : TypeId) (e : TypeId) : Option Nat := if e = vt then some 0 else none
def spA (vt pt : TypeId) (e : TypeId) : Option Nat := if e = vt then some 0 else if e = pt then some 1 else none

theorem val_wt {P : Program} {vt : TypeId} (hb : P.bytesOf vt = 80) (hs : shOf P (spV vt) 6 vt = some valSh) : ∀ (n : Nat) (c : List T), WT P n vt c → ∃ v : Val, c = v.enc ∧ v.Ok := by
  intro n
  induction n using Nat.strongRecOn with
  | _ n ih =>
    intro c h
    refine val_sh0 (shOf_ok (Y := YA) n 6 vt valSh c (fun e i k xs hk he hr hl hc => ?_) hs h)
    unfold spV at he
    split at he
    · rename_i e1; subst e1
      simp only [Option.some.injEq] at he; subst he
      obtain ⟨l, rfl, h3⟩ := choose_map (f := Val.enc) (Q := Val.Ok) xs fun c hcm => ih k hk c (hc c hcm)
      have := reach_le
      rw [hb] at hr
      exact ⟨l, rfl, by unfold B47; simp at hr; omega, h3⟩
    · cases he
theorem pick_wt {P : Program} {vt pt : TypeId} (hb : P.bytesOf vt = 80) (hs : shOf P (spV vt) 6 vt = some valSh) (hbp : P.bytesOf pt = 160) (hsp : shOf P (spA vt pt) 6 pt = some pickSh) : ∀ (n : Nat) (c : List T), WT P n pt c → ∃ p : Pick, c = p.enc ∧ p.Ok ∧ p.on.length ≤ maxLen := by
  have hv := val_wt hb hs
  intro n
  induction n using Nat.strongRecOn with
  | _ n ih =>
    intro c h
    refine pick_sh (shOf_ok (Y := YA) n 6 pt pickSh c (fun e i k xs hk he hr hl hc => ?_) hsp h)
    have := reach_le
    unfold spA at he
    split at he
    · rename_i e1; subst e1
      simp only [Option.some.injEq] at he; subst he
      obtain ⟨l, rfl, h3⟩ := choose_map (f := Val.enc) (Q := Val.Ok) xs fun c hcm => hv k c (hc c hcm)
      rw [hb] at hr
      exact ⟨l, rfl, by unfold B47; simp at hr; omega, h3⟩
    · split at he
      · rename_i _ e1; subst e1
        simp only [Option.some.injEq] at he; subst he
        obtain ⟨l, rfl, h3⟩ := choose_map (f := Pick.enc) (Q := fun p => p.Ok ∧ p.on.length ≤ maxLen) xs fun c hcm => ih k hk c (hc c hcm)
        rw [hbp] at hr
        exact ⟨l, rfl, by unfold B47; simp at hr; omega, h3⟩
      · cases he
/-- what 'WTs.cons_inv' asks for -/
theorem spA_ok {P : Program} {vt pt : TypeId} (hb : P.bytesOf vt = 80) (hs : shOf P (spV vt) 6 vt = some valSh) (hbp : P.bytesOf pt = 160) (hsp : shOf P (spA vt pt) 6 pt = some pickSh) :
    ∀ e i n xs, spA vt pt e = some i → xs.length * P.bytesOf e ≤ reachBytes → xs.length ≤ maxLen → (∀ c ∈ xs, WT P n e c) → YA i (.lst xs) := by
  have hv := val_wt hb hs
  have hp := pick_wt hb hs hbp hsp
  intro e i k xs he hr hl hc
  have := reach_le
  unfold spA at he
  split at he
  · rename_i e1; subst e1
    simp only [Option.some.injEq] at he; subst he
    obtain ⟨l, rfl, h3⟩ := choose_map (f := Val.enc) (Q := Val.Ok) xs fun c hcm => hv k c (hc c hcm)
    rw [hb] at hr
    exact ⟨l, rfl, by unfold B47; simp at hr; omega, h3⟩
  · split at he
    · rename_i _ e1; subst e1
      simp only [Option.some.injEq] at he; subst he
      obtain ⟨l, rfl, h3⟩ := choose_map (f := Pick.enc) (Q := fun p => p.Ok ∧ p.on.length ≤ maxLen) xs fun c hcm => hp k c (hc c hcm)
      rw [hbp] at hr
      exact ⟨l, rfl, by unfold B47; simp at hr; omega, h3⟩
    · cases he
theorem picks_sh {r : List Sh} {c : List T} (h : Sh.oks YA (.num 1 :: r) c) : ∃ (l : List Pick) (c' : List T), c = .lst (l.map Pick.enc) :: c' ∧ l.length ≤ 140737488355328 ∧ (∀ p, p ∈ l → p.Ok) ∧ (∀ p, p ∈ l → p.on.length ≤ 9223372036854775807) ∧ Sh.oks YA r c' := by
  obtain ⟨x, c, rfl, ⟨l, rfl, h1, h2⟩, g1⟩ := Sh.oks_cons h
  unfold B47 at h1
  exact ⟨l, c, rfl, by omega, fun p hp => (h2 p hp).1, fun p hp => by have := (h2 p hp).2; rwa [maxLen_eq] at this, g1⟩
theorem len4 {α : Type} {l : List α} (h : l.length = 4) : ∃ a b c d, l = [a, b, c, d] := by
  match l, h with
  | [a, b, c, d], _ => exact ⟨a, b, c, d, rfl⟩
/-- shapes that end there -/
theorem doc_sh0 {c : List T} (h : Sh.oks YA docSh c) : ∃ l : List Def, c = [.lst (l.map Def.enc)] ∧ DocOk l := by
  obtain ⟨l, c', rfl, h1, h2⟩ := doc_sh (r := []) h
  obtain rfl := Sh.oks_nil h2
  exact ⟨l, rfl, h1⟩
theorem user_sh0 {c : List T} (h : Sh.oks YA userSh c) : ∃ u : User, c = [.bool u.known, .lst (u.scopes.map sE)] ∧ u.scopes.length ≤ 140737488355328 := by
  obtain ⟨l, c', rfl, h1, h2⟩ := user_sh (r := []) h
  obtain rfl := Sh.oks_nil h2
  exact ⟨l, rfl, h1⟩
theorem hops_sh0 {c : List T} (h : Sh.oks YA hopsSh c) : ∃ l : List Hop, c = [.lst (l.map Hop.enc)] ∧ l.length ≤ 140737488355328 := by
  obtain ⟨l, c', rfl, h1, h2⟩ := hops_sh (r := []) h
  obtain rfl := Sh.oks_nil h2
  exact ⟨l, rfl, h1⟩
theorem str_sh0 {c : List T} (h : Sh.oks YA [.str] c) : ∃ s : Str, c = [.str s] := by
  obtain ⟨x, c, rfl, ⟨s, rfl, _⟩, g⟩ := Sh.oks_cons h
  obtain rfl := Sh.oks_nil g
  exact ⟨s, rfl⟩
end Go.GB

/-
  D11R: shapes of chapter 11's arguments.
-/
namespace Go.GB.C11
open Go.GB

theorem spV_ok {P : Program} {vt : TypeId} (hb : P.bytesOf vt = 80) (hs : shOf P (spV vt) 6 vt = some valSh) :
    ∀ e i n xs, spV vt e = some i → xs.length * P.bytesOf e ≤ reachBytes → xs.length ≤ maxLen → (∀ c ∈ xs, WT P n e c) → YA i (.lst xs) := by
  have hv := val_wt hb hs
  intro e i k xs he hr hl hc
  have := reach_le
  unfold spV at he
  split at he
  · rename_i e1; subst e1
    simp only [Option.some.injEq] at he; subst he
    obtain ⟨l, rfl, h3⟩ := choose_map (f := Val.enc) (Q := Val.Ok) xs fun c hcm => hv k c (hc c hcm)
    rw [hb] at hr
    exact ⟨l, rfl, by unfold B47; simp at hr; omega, h3⟩
  · cases he
theorem ref_sh0 {c : List T} (h : Sh.oks YA refSh c) : ∃ v : Ref, c = [.str v.name, .lst (v.wraps.map nE)] ∧ v.Ok := by
  obtain ⟨v, c', rfl, h1, h2⟩ := ref_sh (r := []) h
  obtain rfl := Sh.oks_nil h2
  exact ⟨v, rfl, h1⟩
def refs3Sh : List Sh := refSh ++ (refSh ++ refSh)
theorem refs3_sh0 {c : List T} (h : Sh.oks YA refs3Sh c) : ∃ x y z : Ref, c = [.str x.name, .lst (x.wraps.map nE), .str y.name, .lst (y.wraps.map nE), .str z.name, .lst (z.wraps.map nE)] ∧ x.Ok ∧ y.Ok ∧ z.Ok := by
  obtain ⟨x, c', rfl, h1, h2⟩ := ref_sh h
  obtain ⟨y, c'', rfl, h3, h4⟩ := ref_sh h2
  obtain ⟨z, rfl, h5⟩ := ref_sh0 h4
  exact ⟨x, y, z, rfl, h1, h3, h5⟩
end Go.GB.C11

/-
  GbZH: a law's statement with the bound on its arguments' sizes.
-/
namespace Go.GB
open Go.RowKit Go.WideShapes Go.ChangeShapes
theorem handed {H : Type} {enc : TypeId × Value → H} {a : Assume} {C : Checked} {os : Os} {f : FuncId} {fn : Func} {s : ChangeSpec} {conds : List PathCond} {apart fresh handsOn again : Bool}
    (own : ownKnob C.prog.godebug = none) (started : os.Started) (noInit : C.prog.inits.idxOf? f = none) (hfn : C.prog.funcs[f]? = some fn)
    (witness : ∃ (w : World) (tape : Tape) (i : Go.Input), w.os = os ∧ (w.forCall tape i).Shaped C.prog ∧ i.vars = [] ∧ Go.Input.okWide C.prog (w.forCall tape i) .any w.heap.size f i ∧
      s.pre6 enc C.prog fn conds apart (w.forCall tape i).memory i.args ∧ a.holds C.prog (lone (Frame.enter C.prog f i.args .normal) [] (w.forCall tape i)))
    (contract : ∀ (W : World) (base : Nat) (args : Array Value) (ds gs : List (DataW H)) (before : List MemPlace),
      (∀ (j : Nat) t v, fn.params[j]? = some t → args[j]? = some v → Value.okWide C.prog W .any base t v) →
      DataW.Whole enc C.prog fn.params.toList s.vars apart W args.toList ds gs before →
      (DataW.weightsEach C.prog (fn.params.toList ++ s.plain.varTypes C.prog) (ds ++ gs)).all (· ≤ reachBytes) = true →
      Calls C.prog f args W fun e W' => ∃ v, e = .returned v ∧ s.post enc C.prog fn apart fresh handsOn again W args v W') :
    ReturnsInHanded a C os f .any (s.pre6 enc C.prog fn conds apart) (s.post enc C.prog fn apart fresh handsOn again) := by
  have e : (fun (w : World) (args : Array Value) => (s.pre enc C.prog fn conds apart w args ∧ True) ∧ sizedMet enc C.prog fn (OpenSpec.ofChange s) apart w args) = s.pre6 enc C.prog fn conds apart := by
    funext w args; simp only [and_true]; rfl
  rw [← e]
  obtain ⟨w, tape, i, h1, h2, h3, h4, h5, h6⟩ := witness
  exact returnsInHanded_of_change_and (X := fun _ _ => True) (fun _ _ _ _ _ => trivial) own started noInit hfn ⟨w, tape, i, h1, h2, h3, h4, ⟨⟨h5.1, trivial⟩, h5.2⟩, h6⟩ (fun W base args ds gs before a1 a2 _ a4 _ _ => contract W base args ds gs before a1 a2 a4)
end Go.GB

/-
  GbRi: calls that hand on one's own slices as such.
-/
namespace Go.GB
section
variable {P : Program} {n m : Nat} {R : St → Prop} {draw : Bool} {all : List AO} {after : List (List Nat)} {live : List Nat} {k : List It} {b b' : Nat} {fl : List (Bool × Bool)} {ops : List AO} {st st' : St} {d : Option Nat}
def argsW {α : Type} (st : St) : List Ar → (List V → α) → α
  | [], K => K []
  | x :: r, K => (x.u st).force fun v => argsW st r fun vs => K (v :: vs)
theorem argsW_eq {α : Type} (st : St) : ∀ (l : List Ar) (K : List V → α), argsW st l K = K (argsV st l)
  | [], K => rfl
  | x :: r, K => by simp only [argsW, V.force_eq, argsW_eq st r, argsV]
theorem Mid.callO {f : FuncId} {args : List Ar} {vs vs' : List V} {s1 : List (Nat × AObj)} {m1 : Nat} {out : Out} {v' : V} {ob' : List (Nat × AObj)} {cc : Bool} (r : List Nat) (h : FnOk P f vs ⟨s1, m1⟩ out) (hr : (nodupB r && (r.all (fun k => Nat.blt k b)) && Nat.beq r.length m1) = true)
    (hv : argsW st args some = some vs') (hvs : V.rens (renF r b) vs = vs') (hb : V.bds m1 vs = true) (hs1 : stoBd m1 s1 = true) (hsub : subS (renF r b) st.s.sto s1 m1) (hob : obIn s1 m1 out.n out.ob = true)
    (hv' : out.v.ren (renF r b) = v') (hob' : renOb (renF r b) out.ob = ob') (hcc : forceB (!ob'.isEmpty || decide (0 < out.n)) some = some cc)
    (hst : stepS0 b st d { v := v', ob := ob', n := out.n, rd := true } (fun b' st' => some (b', st')) = some (b', st'))
    (h' : Mid P n m R draw all after live k b' ((true, cc) :: fl) ops st') : Mid P n m R draw all after live k b fl (⟨d, none, .call f args⟩ :: ops) st := by
  simp only [Bool.and_eq_true] at hr
  obtain ⟨⟨hr1, hr2⟩, hr3⟩ := hr
  have hm : r.length = m1 := Nat.eq_of_beq_eq_true hr3
  subst hm
  rw [argsW_eq] at hv
  simp at hv
  refine Mid.opX rfl ?_
  simp only [evX]
  rw [hv, ← hvs]
  have hat := FnOk.ren (renRn (n := out.n) hr1 hr2) h hb hs1 (subS_at hsub) (obIn_at hob)
  rw [hv', ← renOb_eq, hob'] at hat
  simp only [forceB_eq, Option.some.injEq] at hcc
  simp only [stepS0_eq, Option.some.injEq, Prod.mk.injEq] at hst
  obtain ⟨rfl, rfl⟩ := hst
  refine ⟨{ v := v', ob := ob', n := out.n, rd := true }, by simp only [if_true]; exact hat, ?_⟩
  simp only [hcc]
  exact h'
end
end Go.GB

/-
  D11S: contracts of chapter 11's functions: parts of the schema's check.
-/
namespace Go.GB.C11
open Go.GB
set_option linter.unusedSimpArgs false
set_option linter.unusedVariables false
set_option maxRecDepth 100000
set_option maxHeartbeats 2000000
variable {P : Program}

def resF : Str → Bool
  | a :: b :: _ => (a.toNat : Int) == 95 && (b.toNat : Int) == 95
  | _ => false
theorem reserved_ok (H : Pr P) (s : Str) (hs : s.length ≤ 140737488355328) : FnOk P 184 [.t (.str s)] ⟨[], 0⟩ { v := .t (.bool (resF s)) } := by
  match s, hs with
  | [], _ =>
    refine FnOk.run H.i184 H.mixed rfl rfl ?_
    refine fR rfl ?_
    refine Mid.grdF rfl rfl rfl rfl rfl ?_
    refine Mid.grdF rfl rfl rfl rfl rfl ?_
    refine fM rfl ?_
    refine Mid.grdF rfl rfl rfl rfl rfl ?_
    refine Mid.grdF rfl rfl rfl rfl rfl ?_
    refine fM rfl ?_
    refine Run.fin rfl (EndOk.go ?_); exact .t rfl
  | [a], _ =>
    refine FnOk.run H.i184 H.mixed rfl rfl ?_
    refine fR rfl ?_
    refine gr rfl ?_
    refine fM rfl ?_
    refine Mid.grdF rfl rfl rfl rfl rfl ?_
    refine Mid.grdF rfl rfl rfl rfl rfl ?_
    refine fM rfl ?_
    refine Run.fin rfl (EndOk.go ?_); exact .t rfl
  | a :: b :: r, hs =>
    refine FnOk.run H.i184 H.mixed rfl rfl ?_
    refine fR rfl ?_
    refine gr rfl ?_
    refine fM rfl ?_
    refine gr rfl ?_
    refine fM rfl ?_
    refine Run.fin rfl (EndOk.go ?_); exact .t (by
      have : decide (((a :: b :: r).length : Int) ≥ 2) = true := by simp; omega
      rw [this]; rfl)
def allowedF (n : Str) : Bool := nameF n && !resF n
theorem allowed_ok (H : Pr P) (n : Str) (hn : n.length ≤ 140737488355328) : FnOk P 169 [.t (.str n)] ⟨[], 0⟩ { v := .t (.bool (allowedF n)) } := by
  refine FnOk.run H.i169 H.mixed rfl rfl ?_
  refine fR rfl ?_
  refine Mid.call (name_ok H n hn) rfl rfl rfl rfl ?_
  refine fM rfl ?_
  refine caG rfl rfl (fun hg => ⟨_, rfl, reserved_ok H n hn, rfl⟩) rfl rfl ?_
  refine fM rfl ?_
  refine Run.fin rfl (EndOk.go ?_); exact .t rfl
def namesF (n : Str) (bad twice : Bool) (at_ : Str) : List Fault :=
  (if (bad || !allowedF n) = true then [(⟨6, at_⟩ : Fault)] else []) ++ (if twice = true then [(⟨7, at_⟩ : Fault)] else [])
theorem names_ok (H : Pr P) (n : Str) (hn : n.length ≤ 140737488355328) (bad twice : Bool) (at_ : Str) : FnOk P 149 [.t (.str n), .t (.bool bad), .t (.bool twice), .t (.str at_)] ⟨[], 0⟩ { v := .t (.lst ((namesF n bad twice at_).map Fault.enc)) } := by
  refine FnOk.run H.i149 H.mixed rfl rfl ?_
  refine fR rfl ?_
  refine caG rfl rfl (fun hg => ⟨_, rfl, allowed_ok H n hn, rfl⟩) rfl rfl ?_
  refine fM rfl ?_
  refine Run.cond rfl rfl (fun h => ?_) (fun h => ?_)
  · refine fR rfl ?_
    refine apN Fault.enc [(⟨6, at_⟩ : Fault)] rfl rfl rfl ?_ (h1 := by first | omega | (simp; omega) | (simp; done)) (h2 := by first | omega | (simp; omega) | (simp; done))
    refine fM rfl ?_
    cases twice with
    | true =>
      refine Run.condT rfl rfl rfl ?_
      refine fR rfl ?_
      refine apM Fault.enc [(⟨6, at_⟩ : Fault)] [(⟨7, at_⟩ : Fault)] rfl rfl rfl rfl rfl ?_ (h1 := by first | omega | (simp; omega) | (simp; done)) (h2 := by first | omega | (simp; omega) | (simp; done))
      refine fM rfl ?_
      refine Run.fin rfl (EndOk.go ?_); exact .own (by unfold namesF; rw [if_pos h, if_pos rfl])
    | false =>
      refine Run.condF rfl rfl rfl ?_
      refine fR rfl ?_
      refine Run.fin rfl (EndOk.go ?_); exact .own (by unfold namesF; rw [if_pos h, if_neg (by simp)]; rfl)
  · refine fR rfl ?_
    have h' : ¬ (bad || !allowedF n) = true := by rw [h]; simp
    cases twice with
    | true =>
      refine Run.condT rfl rfl rfl ?_
      refine fR rfl ?_
      refine apN Fault.enc [(⟨7, at_⟩ : Fault)] rfl rfl rfl ?_ (h1 := by first | omega | (simp; omega) | (simp; done)) (h2 := by first | omega | (simp; omega) | (simp; done))
      refine fM rfl ?_
      refine Run.fin rfl (EndOk.go ?_); exact .own (by unfold namesF; rw [if_neg h', if_pos rfl]; rfl)
    | false =>
      refine Run.condF rfl rfl rfl ?_
      refine fR rfl ?_
      refine Run.fin rfl (EndOk.go ?_); exact .nil (by unfold namesF; rw [if_neg h', if_neg (by simp)]; rfl)
def emptyF (d : Def) : Bool := if d.kind = 1 ∨ d.kind = 2 then ((d.fields.length : Int) == 0) else if d.kind = 3 ∨ d.kind = 4 then ((d.members.length : Int) == 0) else if d.kind = 5 then ((d.inputs.length : Int) == 0) else false
def knownF (ds : List Def) (n : Str) : Bool := scalF n || (findDef n ds).isSome
theorem known_ok (H : Pr P) (ds : List Def) (hD : DocOk ds) (n : Str) : FnOk P 152 [docV ds, .t (.str n)] ⟨[], 0⟩ { v := .t (.bool (knownF ds n)) } := by
  refine FnOk.run H.i152 H.mixed rfl rfl ?_
  refine fR rfl ?_
  refine Mid.call (rFind_ok H ds hD.l n) rfl rfl rfl rfl ?_
  refine fM rfl ?_
  refine Mid.call (rScalar_ok H n) rfl rfl rfl rfl ?_
  refine fM rfl ?_
  refine Run.fin rfl (EndOk.go ?_); exact .t rfl
def leafF (ds : List Def) (n : Str) : Bool := scalF n || ((findDef n ds).isSome && ((findDef n ds).getD Def.zero).kind == 4)
theorem leaf_ok (H : Pr P) (ds : List Def) (hD : DocOk ds) (n : Str) : FnOk P 172 [docV ds, .t (.str n)] ⟨[], 0⟩ { v := .t (.bool (leafF ds n)) } := by
  refine FnOk.run H.i172 H.mixed rfl rfl ?_
  refine fR rfl ?_
  refine Mid.call (rFind_ok H ds hD.l n) rfl rfl rfl rfl ?_
  refine fM rfl ?_
  refine Mid.call (rScalar_ok H n) rfl rfl rfl rfl ?_
  refine fM rfl ?_
  refine Run.fin rfl (EndOk.go ?_); exact .t rfl
def isInF (ds : List Def) (n : Str) : Bool := leafF ds n || ((findDef n ds).isSome && ((findDef n ds).getD Def.zero).kind == 5)
theorem isInput_ok (H : Pr P) (ds : List Def) (hD : DocOk ds) (n : Str) : FnOk P 154 [docV ds, .t (.str n)] ⟨[], 0⟩ { v := .t (.bool (isInF ds n)) } := by
  refine FnOk.run H.i154 H.mixed rfl rfl ?_
  refine fR rfl ?_
  refine Mid.call (rFind_ok H ds hD.l n) rfl rfl rfl rfl ?_
  refine fM rfl ?_
  refine Mid.call (leaf_ok H ds hD n) rfl rfl rfl rfl ?_
  refine fM rfl ?_
  refine Run.fin rfl (EndOk.go ?_); exact .t rfl
theorem rInputOf_ok (H : Pr P) (l : List Input) (hl : l.length ≤ 140737488355328) (n : Str) : FnOk P 153 [.t (.lst (l.map Input.enc)), .t (.str n)] ⟨[], 0⟩ { v := .tup [Input.v ((findInput n l).getD Input.zero), .t (.bool (findInput n l).isSome)] } := by
  refine FnOk.run H.i153 H.mixed rfl rfl ?_
  refine fR rfl ?_
  refine rList l (fun i (_ : Unit) => { env := [(0, .t (.lst (l.map Input.enc))), (1, .t (.str n)), (4, .ptr 0 0), (6, .t (.int .i64 i))], s := ⟨[(0, .cells [.t (.str []), .t (.str []), .nils, .t (.bool false), .t (.int .i64 0), .t (.int .i64 0), .t (.str []), .nils, .nils, .nils])], 1⟩ }) (fun r i _ => findInput n l = findInput n r) 1 () rfl rfl rfl rfl rfl ?_ ?_
  · intro _ hinv
    refine fR rfl ?_
    refine lM rfl rfl rfl ?_
    refine fM rfl ?_
    refine Run.condF rfl rfl (by simp) ?_
    refine fR rfl ?_
    have e : findInput n l = none := by rw [hinv]; rfl
    rw [e]
    refine Run.fin rfl (EndOk.go ?_); exact .tup2 (.agg (.cons (.t rfl) (.cons (.t rfl) (.cons (.nil rfl) (.cons (.t rfl) (.cons (.t rfl) (.cons (.t rfl) (.cons (.t rfl) (.cons (.nil rfl) (.cons (.nil rfl) (.cons (.nil rfl) .nil))))))))))) (.t rfl)
  · intro i x r _ h1 hi hd hinv ih
    refine fR rfl ?_
    refine lM rfl rfl rfl ?_
    refine fM rfl ?_
    refine Run.condT rfl rfl (by simp; omega) ?_
    refine fR rfl ?_
    refine Mid.elemMap rfl rfl rfl h1 rfl rfl ?_
    refine fM rfl ?_
    refine Run.cond rfl rfl (fun h => ?_) (fun h => ?_)
    · refine fR rfl ?_
      refine Mid.elemMap rfl rfl rfl h1 rfl rfl ?_
      refine fM rfl ?_
      have e : findInput n l = some x := by rw [hinv]; simp only [findInput]; rw [if_pos h]
      rw [e]
      refine Run.fin rfl (EndOk.go ?_); exact .tup2 (.le (.same rfl)) (.t rfl)
    · refine fR rfl ?_
      refine aL rfl rfl rfl rfl rfl ?_
      refine fM rfl ?_
      have h' : ¬ (x.name == n) = true := by rw [h]; simp
      exact rWeak 1 rfl (ih () (by rw [hinv]; simp only [findInput]; rw [if_neg h'])) rfl rfl rfl
theorem empty_ok (H : Pr P) (d : Def) : FnOk P 150 [d.v] ⟨[], 0⟩ { v := .t (.bool (emptyF d)) } := by
  refine FnOk.run H.i150 H.mixed rfl rfl ?_
  refine fR rfl ?_
  refine Run.cond rfl rfl (fun h1 => ?_) (fun h1 => ?_)
  · have e : emptyF d = ((d.fields.length : Int) == 0) := by unfold emptyF; rw [if_pos (.inl (by simpa using h1))]
    skip
    refine Run.condT rfl rfl h1 ?_
    refine fR rfl ?_
    refine lM rfl rfl rfl ?_
    refine fM rfl ?_
    refine Run.fin rfl (EndOk.go ?_); exact .t (by rw [e])
  · have n1 : ¬ d.kind = 1 := by simpa using h1
    refine fR rfl ?_
    refine Run.cond rfl rfl (fun h2 => ?_) (fun h2 => ?_)
    · have e : emptyF d = ((d.fields.length : Int) == 0) := by unfold emptyF; rw [if_pos (.inr (by simpa using h2))]
      refine fR rfl ?_
      refine lM rfl rfl rfl ?_
      refine fM rfl ?_
      refine Run.fin rfl (EndOk.go ?_); exact .t (by rw [e])
    · have n2 : ¬ d.kind = 2 := by simpa using h2
      refine fR rfl ?_
      refine Run.cond rfl rfl (fun h3 => ?_) (fun h3 => ?_)
      · have e : emptyF d = ((d.members.length : Int) == 0) := by unfold emptyF; rw [if_neg (by omega), if_pos (.inl (by simpa using h3))]
        skip
        refine Run.condT rfl rfl h3 ?_
        refine fR rfl ?_
        refine lM rfl rfl rfl ?_
        refine fM rfl ?_
        refine Run.fin rfl (EndOk.go ?_); exact .t (by rw [e])
      · have n3 : ¬ d.kind = 3 := by simpa using h3
        refine fR rfl ?_
        refine Run.cond rfl rfl (fun h4 => ?_) (fun h4 => ?_)
        · have e : emptyF d = ((d.members.length : Int) == 0) := by unfold emptyF; rw [if_neg (by omega), if_pos (.inr (by simpa using h4))]
          refine fR rfl ?_
          refine lM rfl rfl rfl ?_
          refine fM rfl ?_
          refine Run.fin rfl (EndOk.go ?_); exact .t (by rw [e])
        · have n4 : ¬ d.kind = 4 := by simpa using h4
          refine fR rfl ?_
          refine Run.cond rfl rfl (fun h5 => ?_) (fun h5 => ?_)
          · have e : emptyF d = ((d.inputs.length : Int) == 0) := by unfold emptyF; rw [if_neg (by omega), if_neg (by omega), if_pos (by simpa using h5)]
            refine fR rfl ?_
            refine lM rfl rfl rfl ?_
            refine fM rfl ?_
            refine Run.fin rfl (EndOk.go ?_); exact .t (by rw [e])
          · have n5 : ¬ d.kind = 5 := by simpa using h5
            refine fR rfl ?_
            refine Run.fin rfl (EndOk.go ?_); exact .t (by unfold emptyF; rw [if_neg (by omega), if_neg (by omega), if_neg n5])
end Go.GB.C11

/-
  D11T: contracts of chapter 11's functions: inputs that contain themselves.
-/
namespace Go.GB.C11
open Go.GB
set_option linter.unusedSimpArgs false
set_option linter.unusedVariables false
set_option maxRecDepth 100000
set_option maxHeartbeats 2000000
variable {P : Program}

theorem findDef_name {n : Str} : ∀ {l : List Def} {d : Def}, findDef n l = some d → d.name = n
  | [], d, h => by simp [findDef] at h
  | x :: r, d, h => by
    simp only [findDef] at h
    split at h
    · rename_i hx; cases h; simpa using hx
    · exact findDef_name h
theorem has_ok (H : Pr P) (l : List Str) (hl : l.length ≤ 140737488355328) (s : Str) : FnOk P 171 [.t (.lst (l.map sE)), .t (.str s)] ⟨[], 0⟩ { v := .t (.bool (decide (s ∈ l))) } := by
  refine FnOk.run H.i171 H.mixed rfl rfl ?_
  refine fR rfl ?_
  refine rList l (fun i (_ : Unit) => { env := [(0, .t (.lst (l.map sE))), (1, .t (.str s)), (5, .t (.int .i64 i))], s := ⟨[], 0⟩ }) (fun r i _ => decide (s ∈ l) = decide (s ∈ r)) 0 () rfl rfl rfl rfl rfl ?_ ?_
  · intro _ hinv
    refine fR rfl ?_
    refine lM rfl rfl rfl ?_
    refine fM rfl ?_
    refine Run.condF rfl rfl (by simp) ?_
    refine fR rfl ?_
    refine Run.fin rfl (EndOk.go ?_); exact .t (by rw [hinv]; simp)
  · intro i x r _ h1 hi hd hinv ih
    refine fR rfl ?_
    refine lM rfl rfl rfl ?_
    refine fM rfl ?_
    refine Run.condT rfl rfl (by simp; omega) ?_
    refine fR rfl ?_
    refine Mid.elemMap rfl rfl rfl h1 rfl rfl ?_
    refine fM rfl ?_
    refine Run.cond rfl rfl (fun h => ?_) (fun h => ?_)
    · have h' : x = s := by simpa using h
      refine fR rfl ?_
      refine Run.fin rfl (EndOk.go ?_); exact .t (by rw [hinv]; simp [h'])
    · have h' : ¬ x = s := by simpa using h
      have h2 : ¬ s = x := fun e => h' e.symm
      refine fR rfl ?_
      refine aL rfl rfl rfl rfl rfl ?_
      refine fM rfl ?_
      exact rWeak 0 rfl (ih () (by rw [hinv]; simp [h2])) rfl rfl rfl
def dirF : List Int → Bool
  | [] => false
  | w :: r => ((w :: r).length : Int) == 1 && w == 1
theorem direct_ok (H : Pr P) (t : Ref) : FnOk P 185 [t.v] ⟨[], 0⟩ { v := .t (.bool (dirF t.wraps)) } := by
  obtain ⟨n, ws⟩ := t
  match ws with
  | [] =>
    refine FnOk.run H.i185 H.mixed rfl rfl ?_
    refine fR rfl ?_
    refine lM rfl rfl rfl ?_
    refine fM rfl ?_
    refine Mid.grdF rfl rfl rfl rfl rfl ?_
    refine Mid.grdF rfl rfl rfl rfl rfl ?_
    refine Mid.grdF rfl rfl rfl rfl rfl ?_
    refine fM rfl ?_
    refine Run.fin rfl (EndOk.go ?_); exact .t rfl
  | w :: r =>
    have h1 : (w :: r)[0]? = some w := rfl
    refine FnOk.run H.i185 H.mixed rfl rfl ?_
    refine fR rfl ?_
    refine lM rfl rfl rfl ?_
    refine fM rfl ?_
    refine gr rfl ?_
    refine fM rfl ?_
    refine Run.fin rfl (EndOk.go ?_); exact .t rfl
def nextC (ds : List Def) (nm : Str) (x : Input) (l : List Str) : Bool :=
  dirF x.ty.wraps && (x.ty.name == nm || ((findDef x.ty.name ds).isSome && ((findDef x.ty.name ds).getD Def.zero).kind == 5)) && !decide (x.ty.name ∈ l)
def nextF (ds : List Def) (nm : Str) : List Input → List Str → List Str
  | [], l => l
  | x :: r, l => nextF ds nm r (if nextC ds nm x l = true then l ++ [x.ty.name] else l)
theorem next0_ok (H : Pr P) (ds : List Def) (hD : DocOk ds) (d : Def) (hd : d.Ok) (nm : Str) (hl : d.inputs.length ≤ 4398046511104) :
    FnOk P 170 [docV ds, d.v, .t (.str nm), .nils] ⟨[], 0⟩ { v := .own 2 1 ((nextF ds nm d.inputs []).map sE), ob := [(2, .arr (nextF ds nm d.inputs []).length)], n := 3 } := by
  refine FnOk.run H.i170 H.mixed rfl rfl ?_
  refine fR rfl ?_
  refine rList d.inputs (fun i (B : List Str) => { env := [(2, .t (.str nm)), (3, .own 2 1 (B.map sE)), (4, .ptr 0 0), (5, .ptr 1 0), (9, .t (.int .i64 i))], s := ⟨[(0, .cells [.t (.lst (ds.map Def.enc))]), (1, .cells [.t (.int .i64 d.kind), .t (.str d.name), .t (.lst (d.implements.map sE)), .t (.lst (d.dirs.map Dir.enc)), .t (.lst (d.fields.map Field.enc)), .t (.lst (d.members.map Member.enc)), .t (.lst (d.inputs.map Input.enc))]), (2, .arr B.length)], 3⟩ }) (fun r i B => B.length + r.length ≤ 4398046511104 ∧ nextF ds nm d.inputs [] = nextF ds nm r B) 2 [] rfl ⟨by simpa using hl, rfl⟩ rfl rfl rfl ?_ ?_
  · rintro B ⟨_, hB⟩
    have hB' : nextF ds nm d.inputs [] = B := hB
    rw [hB']
    refine fR rfl ?_
    refine lM rfl rfl rfl ?_
    refine fM rfl ?_
    refine Run.condF rfl rfl (by simp) ?_
    refine fR rfl ?_
    refine Run.fin rfl (EndOk.chg rfl rfl ?_ ?_)
    · exact .le (.same rfl)
    · exact (by repeat' (first | exact trivial | exact LeX.t | exact LeX.top | exact LeX.nilOwn (Nat.le_of_ble_eq_true rfl) (Nat.le_of_ble_eq_true rfl) | exact LeX.ownT | exact LeX.nilT | exact LeX.same rfl | exact LeX.tEq (by simp) | exact LeX.ownEq (by simp) (Nat.le_of_ble_eq_true rfl) | exact LeX.tEq (by congr 1 <;> omega) | exact Or.inr ⟨Nat.le_of_ble_eq_true rfl, Nat.le_of_ble_eq_true rfl, rfl⟩ | refine Or.inl ⟨Nat.le_of_ble_eq_true rfl, _, rfl, ?_⟩ | refine LeO.cells ?_ | exact LeO.arr rfl | exact LeO.arr (by simp) | exact LeO.mE (by first | rfl | simp) (by first | exact Or.inl rfl | exact Or.inr rfl) | exact LeO.cE (by first | rfl | simp) | exact LeXs.cE (by first | rfl | simp) | refine LeO.map (by first | rfl | simp) ?_ (by first | exact Or.inl rfl | exact Or.inr rfl) | exact LeO.iter (by first | rfl | simp) (Nat.le_of_ble_eq_true rfl) | refine LeXs.cons ?_ ?_ | exact LeXs.nil | refine And.intro ?_ ?_))
  · rintro i x r B h1 hi hdr ⟨hlB, hB⟩ ih
    simp only [List.length_cons] at hlB
    have hx := hd.n x (List.mem_of_getElem? h1)
    refine fR rfl ?_
    refine lM rfl rfl rfl ?_
    refine fM rfl ?_
    refine Run.condT rfl rfl (by simp; omega) ?_
    refine fR rfl ?_
    refine Mid.elemMap rfl rfl rfl h1 rfl rfl ?_
    refine fM rfl ?_
    refine Mid.call (rFind_ok H ds hD.l x.ty.name) rfl rfl rfl rfl ?_
    refine fM rfl ?_
    refine Mid.call (direct_ok H x.ty) rfl rfl rfl rfl ?_
    refine fM rfl ?_
    refine caG rfl rfl (fun hg => ⟨_, rfl, has_ok H B (by omega) x.ty.name, rfl⟩) rfl rfl ?_
    refine fM rfl ?_
    refine Run.cond rfl rfl (fun hc => ?_) (fun hc => ?_)
    · have e : nextC ds nm x B = true := hc
      refine fR rfl ?_
      refine apM sE B [x.ty.name] rfl rfl rfl rfl rfl ?_ (h1 := by first | omega | (simp; omega) | (simp; done)) (h2 := by first | omega | (simp; omega) | (simp; done))
      refine fM rfl ?_
      refine aL rfl rfl rfl rfl rfl ?_
      refine fM rfl ?_
      exact rWeak 3 rfl (ih (B ++ [x.ty.name]) ⟨by simp; omega, by rw [hB]; simp only [nextF]; rw [if_pos e]⟩) rfl rfl rfl
    · have e : ¬ nextC ds nm x B = true := by rw [show nextC ds nm x B = false from hc]; simp
      refine fR rfl ?_
      refine aL rfl rfl rfl rfl rfl ?_
      refine fM rfl ?_
      exact rWeak 3 rfl (ih B ⟨by omega, by rw [hB]; simp only [nextF]; rw [if_neg e]⟩) rfl rfl rfl
theorem next_ok (H : Pr P) (ds : List Def) (hD : DocOk ds) (d : Def) (hd : d.Ok) (nm : Str) (l : List Str) (hl : l.length + d.inputs.length ≤ 4398046511104) :
    FnOk P 170 [docV ds, d.v, .t (.str nm), .own 0 1 (l.map sE)] ⟨[(0, .arr l.length)], 1⟩ { v := .own 0 1 ((nextF ds nm d.inputs l).map sE), ob := [(0, .arr (nextF ds nm d.inputs l).length)], rd := true } := by
  refine FnOk.run H.i170 H.mixed rfl rfl ?_
  refine fR rfl ?_
  refine rList d.inputs (fun i (B : List Str) => { env := [(2, .t (.str nm)), (3, .own 0 1 (B.map sE)), (4, .ptr 1 0), (5, .ptr 2 0), (9, .t (.int .i64 i))], s := ⟨[(0, .arr B.length), (1, .cells [.t (.lst (ds.map Def.enc))]), (2, .cells [.t (.int .i64 d.kind), .t (.str d.name), .t (.lst (d.implements.map sE)), .t (.lst (d.dirs.map Dir.enc)), .t (.lst (d.fields.map Field.enc)), .t (.lst (d.members.map Member.enc)), .t (.lst (d.inputs.map Input.enc))])], 3⟩ }) (fun r i B => B.length + r.length ≤ 4398046511104 ∧ nextF ds nm d.inputs l = nextF ds nm r B) 3 l rfl ⟨by exact hl, rfl⟩ rfl rfl rfl ?_ ?_
  · rintro B ⟨_, hB⟩
    have hB' : nextF ds nm d.inputs l = B := hB
    rw [hB']
    refine fR rfl ?_
    refine lM rfl rfl rfl ?_
    refine fM rfl ?_
    refine Run.condF rfl rfl (by simp) ?_
    refine fR rfl ?_
    refine Run.fin rfl (EndOk.chg rfl rfl ?_ ?_)
    · exact .le (.same rfl)
    · exact (by repeat' (first | exact trivial | exact LeX.t | exact LeX.top | exact LeX.nilOwn (Nat.le_of_ble_eq_true rfl) (Nat.le_of_ble_eq_true rfl) | exact LeX.ownT | exact LeX.nilT | exact LeX.same rfl | exact LeX.tEq (by simp) | exact LeX.ownEq (by simp) (Nat.le_of_ble_eq_true rfl) | exact LeX.tEq (by congr 1 <;> omega) | exact Or.inr ⟨Nat.le_of_ble_eq_true rfl, Nat.le_of_ble_eq_true rfl, rfl⟩ | refine Or.inl ⟨Nat.le_of_ble_eq_true rfl, _, rfl, ?_⟩ | refine LeO.cells ?_ | exact LeO.arr rfl | exact LeO.arr (by simp) | exact LeO.mE (by first | rfl | simp) (by first | exact Or.inl rfl | exact Or.inr rfl) | exact LeO.cE (by first | rfl | simp) | exact LeXs.cE (by first | rfl | simp) | refine LeO.map (by first | rfl | simp) ?_ (by first | exact Or.inl rfl | exact Or.inr rfl) | exact LeO.iter (by first | rfl | simp) (Nat.le_of_ble_eq_true rfl) | refine LeXs.cons ?_ ?_ | exact LeXs.nil | refine And.intro ?_ ?_))
  · rintro i x r B h1 hi hdr ⟨hlB, hB⟩ ih
    simp only [List.length_cons] at hlB
    have hx := hd.n x (List.mem_of_getElem? h1)
    refine fR rfl ?_
    refine lM rfl rfl rfl ?_
    refine fM rfl ?_
    refine Run.condT rfl rfl (by simp; omega) ?_
    refine fR rfl ?_
    refine Mid.elemMap rfl rfl rfl h1 rfl rfl ?_
    refine fM rfl ?_
    refine Mid.call (rFind_ok H ds hD.l x.ty.name) rfl rfl rfl rfl ?_
    refine fM rfl ?_
    refine Mid.call (direct_ok H x.ty) rfl rfl rfl rfl ?_
    refine fM rfl ?_
    refine caG rfl rfl (fun hg => ⟨_, rfl, has_ok H B (by omega) x.ty.name, rfl⟩) rfl rfl ?_
    refine fM rfl ?_
    refine Run.cond rfl rfl (fun hc => ?_) (fun hc => ?_)
    · have e : nextC ds nm x B = true := hc
      refine fR rfl ?_
      refine apM sE B [x.ty.name] rfl rfl rfl rfl rfl ?_ (h1 := by first | omega | (simp; omega) | (simp; done)) (h2 := by first | omega | (simp; omega) | (simp; done))
      refine fM rfl ?_
      refine aL rfl rfl rfl rfl rfl ?_
      refine fM rfl ?_
      exact rWeak 3 rfl (ih (B ++ [x.ty.name]) ⟨by simp; omega, by rw [hB]; simp only [nextF]; rw [if_pos e]⟩) rfl rfl rfl
    · have e : ¬ nextC ds nm x B = true := by rw [show nextC ds nm x B = false from hc]; simp
      refine fR rfl ?_
      refine aL rfl rfl rfl rfl rfl ?_
      refine fM rfl ?_
      exact rWeak 3 rfl (ih B ⟨by omega, by rw [hB]; simp only [nextF]; rw [if_neg e]⟩) rfl rfl rfl

theorem nextF_le (ds : List Def) (nm : Str) : ∀ (ins : List Input) (l : List Str), l.length ≤ (nextF ds nm ins l).length
  | [], l => Nat.le_refl _
  | x :: r, l => by
    simp only [nextF]
    refine Nat.le_trans ?_ (nextF_le ds nm r _)
    split <;> simp
/- the closure -/
def circF (ds : List Def) (nm : Str) : Nat → Nat → List Str → List Str
  | 0, _, l => l
  | k + 1, i, l => match l[i]? with
    | none => l
    | some n => circF ds nm k (i + 1) (nextF ds nm ((findDef n ds).getD Def.zero).inputs l)
def circB (ds : List Def) (d : Def) : Bool := d.kind == 5 && decide (d.name ∈ circF ds d.name (ds.length + 2) 0 (nextF ds d.name d.inputs []))
structure LOk (ds : List Def) (nm : Str) (l : List Str) : Prop where
  nd : l.Nodup
  mem : ∀ x, x ∈ l → x ∈ nm :: ds.map (fun o => o.name)
theorem nodup_len {α : Type} [BEq α] [LawfulBEq α] : ∀ {l m : List α}, l.Nodup → (∀ x, x ∈ l → x ∈ m) → l.length ≤ m.length
  | [], _, _, _ => by simp
  | a :: r, m, hn, hs => by
    have ha : a ∈ m := hs a (by simp)
    obtain ⟨hn1, hn2⟩ := List.nodup_cons.1 hn
    have h1 := nodup_len (l := r) (m := m.erase a) hn2 (fun x hx => by
      have hne : x ≠ a := by rintro rfl; exact hn1 hx
      exact (List.mem_erase_of_ne hne).2 (hs x (List.mem_cons_of_mem _ hx)))
    have h2 := List.length_erase_of_mem ha
    have h3 : 0 < m.length := List.length_pos_of_mem ha
    simp only [List.length_cons]; omega
theorem LOk.len {ds : List Def} {nm : Str} {l : List Str} (h : LOk ds nm l) : l.length ≤ ds.length + 1 := by
  have := nodup_len h.nd h.mem
  simpa using this
theorem nextF_ok {ds : List Def} {nm : Str} : ∀ {ins : List Input} {l : List Str}, LOk ds nm l → LOk ds nm (nextF ds nm ins l)
  | [], l, h => h
  | x :: r, l, h => by
    simp only [nextF]
    split
    · rename_i hc
      refine nextF_ok ⟨?_, ?_⟩
      · unfold nextC at hc
        simp only [Bool.and_eq_true] at hc
        have hn : ¬ x.ty.name ∈ l := by simpa using hc.2
        rw [List.nodup_append]
        exact ⟨h.nd, by simp, fun a ha b hb e => by simp at hb; subst hb; subst e; exact hn ha⟩
      · intro y hy
        rcases List.mem_append.1 hy with hy | hy
        · exact h.mem y hy
        · simp at hy; subst hy
          unfold nextC at hc
          simp only [Bool.and_eq_true, Bool.or_eq_true, beq_iff_eq] at hc
          rcases hc.1.2 with e | e
          · rw [e]; simp
          · cases hf : findDef x.ty.name ds with
            | none => rw [hf] at e; simp at e
            | some o =>
              have h1 := findDef_mem hf
              have h2 := findDef_name hf
              rw [← h2]
              exact List.mem_cons_of_mem _ (List.mem_map.2 ⟨o, h1, rfl⟩)
    · exact nextF_ok h
theorem circular_ok (H : Pr P) (ds : List Def) (hD : DocOk ds) (d : Def) (hd : d.Ok) (hil : ∀ o, o ∈ d :: ds → o.inputs.length ≤ 2199023255552) : FnOk P 151 [docV ds, d.v] ⟨[], 0⟩ { v := .t (.bool (circB ds d)) } := by
  have hlb := hD.lb
  have hz : ∀ n, ((findDef n ds).getD Def.zero).inputs.length ≤ 2199023255552 := by
    intro n
    cases hf : findDef n ds with
    | none => simp [Def.zero]
    | some o => exact hil o (List.mem_cons_of_mem _ (findDef_mem hf))
  refine FnOk.run H.i151 H.mixed rfl rfl ?_
  refine fR rfl ?_
  refine Run.cond rfl rfl (fun hk => ?_) (fun hk => ?_)
  · have e : circB ds d = false := by unfold circB; rw [show (d.kind == 5) = false from by simpa using hk]; rfl
    refine fR rfl ?_
    refine Run.fin rfl (EndOk.go ?_); exact .t (by rw [e])
  · have hk' : (d.kind == 5) = true := by simpa using hk
    refine fR rfl ?_
    have h0 : LOk ds d.name (nextF ds d.name d.inputs []) := nextF_ok ⟨List.nodup_nil, by simp⟩
    refine Mid.callO [] (next0_ok H ds hD d hd d.name (by have := hil d (by simp); omega)) rfl rfl rfl rfl (by simp [stoBd]) (by repeat' (first | exact trivial | exact rfl | refine And.intro ?_ ?_ | exact (congrArg some (AObj.ren_mE _ _ _ _ _ _)).symm | exact (congrArg some (AObj.ren_cE _ _ _)).symm)) rfl rfl (ob' := [(4, .arr (nextF ds d.name d.inputs []).length)]) (rfl) rfl rfl ?_
    refine fM rfl ?_
    have eB : circB ds d = decide (d.name ∈ circF ds d.name (ds.length + 2) 0 (nextF ds d.name d.inputs [])) := by unfold circB; rw [hk']; rfl
    generalize hC : circF ds d.name (ds.length + 2) 0 (nextF ds d.name d.inputs []) = C at eB
    have hN : ∀ (i : Nat) (l : List Str), LOk ds d.name l → i ≤ l.length → ds.length + 2 - i = (ds.length + 1 - i) + 1 := by
      intro i l hl hi
      have := hl.len; omega
    refine rLoopM (β := Nat × List Str) (fun b => { env := [(2, .ptr 0 0), (3, .ptr 1 0), (5, .own 4 1 (b.2.map sE)), (6, .t (.int .i64 b.1))], s := ⟨[(0, .cells [.t (.lst (ds.map Def.enc))]), (1, .cells [.t (.int .i64 d.kind), .t (.str d.name), .t (.lst (d.implements.map sE)), .t (.lst (d.dirs.map Dir.enc)), .t (.lst (d.fields.map Field.enc)), .t (.lst (d.members.map Member.enc)), .t (.lst (d.inputs.map Input.enc))]), (4, .arr b.2.length)], 5⟩ })
      (fun b => LOk ds d.name b.2 ∧ b.1 ≤ b.2.length ∧ C = circF ds d.name (ds.length + 2 - b.1) b.1 b.2) (fun b => ds.length + 2 - b.1) 5 (0, nextF ds d.name d.inputs []) rfl ⟨h0, by simp, hC.symm⟩ rfl rfl rfl ?_
    rintro ⟨i, l⟩ ⟨hl, hi, hinv⟩ ih
    dsimp only at hl hi hinv ih ⊢
    have hlen := hl.len
    have hN' := hN i l hl hi
    rw [hN'] at hinv
    refine fR rfl ?_
    refine lM rfl rfl rfl ?_
    refine fM rfl ?_
    by_cases hlt : i < l.length
    · refine Run.condT rfl rfl (by simp; omega) ?_
      have hg : l[i]? = some l[i] := List.getElem?_eq_getElem hlt
      generalize l[i] = n at hg
      have hF := docFind hD n
      have hnx : LOk ds d.name (nextF ds d.name ((findDef n ds).getD Def.zero).inputs l) := nextF_ok hl
      simp only [circF, hg] at hinv
      have hzn := hz n
      refine fR rfl ?_
      refine Mid.elemMap rfl rfl rfl hg rfl rfl ?_
      refine fM rfl ?_
      refine Mid.call (rFind_ok H ds hD.l n) rfl rfl rfl rfl ?_
      refine fM rfl ?_
      refine Mid.callO [4] (next_ok H ds hD ((findDef n ds).getD Def.zero) hF d.name l (by omega)) rfl rfl rfl rfl (by simp [stoBd]; simp [AObj.bd]) (by repeat' (first | exact trivial | exact rfl | refine And.intro ?_ ?_ | exact (congrArg some (AObj.ren_mE _ _ _ _ _ _)).symm | exact (congrArg some (AObj.ren_cE _ _ _)).symm)) rfl rfl (ob' := [(4, .arr (nextF ds d.name ((findDef n ds).getD Def.zero).inputs l).length)]) (rfl) rfl rfl ?_
      refine fM rfl ?_
      refine aL rfl rfl rfl rfl rfl ?_
      refine fM rfl ?_
      exact rWeak 5 rfl (ih (i + 1, nextF ds d.name ((findDef n ds).getD Def.zero).inputs l) (by simp only; omega) ⟨hnx, by simp only; have := nextF_le ds d.name ((findDef n ds).getD Def.zero).inputs l; omega, by rw [hinv]; simp only; congr 1; omega⟩) rfl rfl rfl
    · refine Run.condF rfl rfl (by simp; omega) ?_
      have hg : l[i]? = none := List.getElem?_eq_none (by omega)
      simp only [circF, hg] at hinv
      refine fR rfl ?_
      refine Mid.call (has_ok H l (by omega) d.name) rfl rfl rfl rfl ?_
      refine fM rfl ?_
      refine Run.fin rfl (EndOk.go ?_); exact .t (by rw [eB, hinv])
end Go.GB.C11

/-
  D11U: contracts of chapter 11's functions: the parts of the schema's check.
-/
namespace Go.GB.C11
open Go.GB
set_option linter.unusedSimpArgs false
set_option linter.unusedVariables false
set_option maxRecDepth 100000
set_option maxHeartbeats 2000000
variable {P : Program}

theorem namesO_ok (H : Pr P) (n : Str) (hn : n.length ≤ 140737488355328) (bad twice : Bool) (at_ : Str) : FnOk P 149 [.t (.str n), .t (.bool bad), .t (.bool twice), .t (.str at_)] ⟨[], 0⟩ { v := .own 0 2 ((namesF n bad twice at_).map Fault.enc), ob := [(0, .arr (namesF n bad twice at_).length)], n := 1 } := by
  refine FnOk.run H.i149 H.mixed rfl rfl ?_
  refine fR rfl ?_
  refine caG rfl rfl (fun hg => ⟨_, rfl, allowed_ok H n hn, rfl⟩) rfl rfl ?_
  refine fM rfl ?_
  refine Run.cond rfl rfl (fun h => ?_) (fun h => ?_)
  · refine fR rfl ?_
    refine apN Fault.enc [(⟨6, at_⟩ : Fault)] rfl rfl rfl ?_ (h1 := by first | omega | (simp; omega) | (simp; done)) (h2 := by first | omega | (simp; omega) | (simp; done))
    refine fM rfl ?_
    cases twice with
    | true =>
      refine Run.condT rfl rfl rfl ?_
      refine fR rfl ?_
      refine apM Fault.enc [(⟨6, at_⟩ : Fault)] [(⟨7, at_⟩ : Fault)] rfl rfl rfl rfl rfl ?_ (h1 := by first | omega | (simp; omega) | (simp; done)) (h2 := by first | omega | (simp; omega) | (simp; done))
      refine fM rfl ?_
      have e : namesF n bad true at_ = [⟨6, at_⟩] ++ [⟨7, at_⟩] := by unfold namesF; rw [if_pos h, if_pos rfl]
      rw [e]
      refine Run.fin rfl (EndOk.chg rfl rfl ?_ ?_)
      · exact .le (.same rfl)
      · exact (by repeat' (first | exact trivial | exact LeX.t | exact LeX.top | exact LeX.nilOwn (Nat.le_of_ble_eq_true rfl) (Nat.le_of_ble_eq_true rfl) | exact LeX.ownT | exact LeX.nilT | exact LeX.same rfl | exact LeX.tEq (by simp) | exact LeX.ownEq (by simp) (Nat.le_of_ble_eq_true rfl) | exact LeX.tEq (by congr 1 <;> omega) | exact Or.inr ⟨Nat.le_of_ble_eq_true rfl, Nat.le_of_ble_eq_true rfl, rfl⟩ | refine Or.inl ⟨Nat.le_of_ble_eq_true rfl, _, rfl, ?_⟩ | refine LeO.cells ?_ | exact LeO.arr rfl | exact LeO.arr (by simp) | exact LeO.mE (by first | rfl | simp) (by first | exact Or.inl rfl | exact Or.inr rfl) | exact LeO.cE (by first | rfl | simp) | exact LeXs.cE (by first | rfl | simp) | refine LeO.map (by first | rfl | simp) ?_ (by first | exact Or.inl rfl | exact Or.inr rfl) | exact LeO.iter (by first | rfl | simp) (Nat.le_of_ble_eq_true rfl) | refine LeXs.cons ?_ ?_ | exact LeXs.nil | refine And.intro ?_ ?_))
    | false =>
      refine Run.condF rfl rfl rfl ?_
      refine fR rfl ?_
      have e : namesF n bad false at_ = [⟨6, at_⟩] := by unfold namesF; rw [if_pos h, if_neg (by simp)]; rfl
      rw [e]
      refine Run.fin rfl (EndOk.chg rfl rfl ?_ ?_)
      · exact .le (.same rfl)
      · exact (by repeat' (first | exact trivial | exact LeX.t | exact LeX.top | exact LeX.nilOwn (Nat.le_of_ble_eq_true rfl) (Nat.le_of_ble_eq_true rfl) | exact LeX.ownT | exact LeX.nilT | exact LeX.same rfl | exact LeX.tEq (by simp) | exact LeX.ownEq (by simp) (Nat.le_of_ble_eq_true rfl) | exact LeX.tEq (by congr 1 <;> omega) | exact Or.inr ⟨Nat.le_of_ble_eq_true rfl, Nat.le_of_ble_eq_true rfl, rfl⟩ | refine Or.inl ⟨Nat.le_of_ble_eq_true rfl, _, rfl, ?_⟩ | refine LeO.cells ?_ | exact LeO.arr rfl | exact LeO.arr (by simp) | exact LeO.mE (by first | rfl | simp) (by first | exact Or.inl rfl | exact Or.inr rfl) | exact LeO.cE (by first | rfl | simp) | exact LeXs.cE (by first | rfl | simp) | refine LeO.map (by first | rfl | simp) ?_ (by first | exact Or.inl rfl | exact Or.inr rfl) | exact LeO.iter (by first | rfl | simp) (Nat.le_of_ble_eq_true rfl) | refine LeXs.cons ?_ ?_ | exact LeXs.nil | refine And.intro ?_ ?_))
  · refine fR rfl ?_
    have h' : ¬ (bad || !allowedF n) = true := by rw [h]; simp
    refine rWeakC 0 rfl (st' := { env := [(3, .t (.str at_)), (9, .own 0 2 ([].map Fault.enc)), (21, .t (.bool twice))], s := ⟨[(0, .arr 0)], 1⟩ }) ?_ rfl rfl rfl
    cases twice with
    | true =>
      refine Run.condT rfl rfl rfl ?_
      refine fR rfl ?_
      refine apM Fault.enc [] [(⟨7, at_⟩ : Fault)] rfl rfl rfl rfl rfl ?_ (h1 := by first | omega | (simp; omega) | (simp; done)) (h2 := by first | omega | (simp; omega) | (simp; done))
      refine fM rfl ?_
      have e : namesF n bad true at_ = [⟨7, at_⟩] := by unfold namesF; rw [if_neg h', if_pos rfl]; rfl
      rw [e]
      refine Run.fin rfl (EndOk.chg rfl rfl ?_ ?_)
      · exact .le (.same rfl)
      · exact (by repeat' (first | exact trivial | exact LeX.t | exact LeX.top | exact LeX.nilOwn (Nat.le_of_ble_eq_true rfl) (Nat.le_of_ble_eq_true rfl) | exact LeX.ownT | exact LeX.nilT | exact LeX.same rfl | exact LeX.tEq (by simp) | exact LeX.ownEq (by simp) (Nat.le_of_ble_eq_true rfl) | exact LeX.tEq (by congr 1 <;> omega) | exact Or.inr ⟨Nat.le_of_ble_eq_true rfl, Nat.le_of_ble_eq_true rfl, rfl⟩ | refine Or.inl ⟨Nat.le_of_ble_eq_true rfl, _, rfl, ?_⟩ | refine LeO.cells ?_ | exact LeO.arr rfl | exact LeO.arr (by simp) | exact LeO.mE (by first | rfl | simp) (by first | exact Or.inl rfl | exact Or.inr rfl) | exact LeO.cE (by first | rfl | simp) | exact LeXs.cE (by first | rfl | simp) | refine LeO.map (by first | rfl | simp) ?_ (by first | exact Or.inl rfl | exact Or.inr rfl) | exact LeO.iter (by first | rfl | simp) (Nat.le_of_ble_eq_true rfl) | refine LeXs.cons ?_ ?_ | exact LeXs.nil | refine And.intro ?_ ?_))
    | false =>
      refine Run.condF rfl rfl rfl ?_
      refine fR rfl ?_
      have e : namesF n bad false at_ = [] := by unfold namesF; rw [if_neg h', if_neg (by simp)]; rfl
      rw [e]
      refine Run.fin rfl (EndOk.chg rfl rfl ?_ ?_)
      · exact .le (.same rfl)
      · exact (by repeat' (first | exact trivial | exact LeX.t | exact LeX.top | exact LeX.nilOwn (Nat.le_of_ble_eq_true rfl) (Nat.le_of_ble_eq_true rfl) | exact LeX.ownT | exact LeX.nilT | exact LeX.same rfl | exact LeX.tEq (by simp) | exact LeX.ownEq (by simp) (Nat.le_of_ble_eq_true rfl) | exact LeX.tEq (by congr 1 <;> omega) | exact Or.inr ⟨Nat.le_of_ble_eq_true rfl, Nat.le_of_ble_eq_true rfl, rfl⟩ | refine Or.inl ⟨Nat.le_of_ble_eq_true rfl, _, rfl, ?_⟩ | refine LeO.cells ?_ | exact LeO.arr rfl | exact LeO.arr (by simp) | exact LeO.mE (by first | rfl | simp) (by first | exact Or.inl rfl | exact Or.inr rfl) | exact LeO.cE (by first | rfl | simp) | exact LeXs.cE (by first | rfl | simp) | refine LeO.map (by first | rfl | simp) ?_ (by first | exact Or.inl rfl | exact Or.inr rfl) | exact LeO.iter (by first | rfl | simp) (Nat.le_of_ble_eq_true rfl) | refine LeXs.cons ?_ ?_ | exact LeXs.nil | refine And.intro ?_ ?_))
def rootS (n : Str) : Bool := n == [81, 117, 101, 114, 121] || n == [77, 117, 116, 97, 116, 105, 111, 110] || n == [83, 117, 98, 115, 99, 114, 105, 112, 116, 105, 111, 110]
def badKind (d : Def) : Bool := (rootS d.name && d.kind != 1) || decide (d.kind < 1) || decide (d.kind > 5)
def twiceF (ds : List Def) (i : Nat) (n : Str) : Bool := scalF n || (ds.take i).any fun o => o.name == n
def wholeF (ds : List Def) (i : Nat) (d : Def) : List Fault :=
  namesF d.name false (twiceF ds i d.name) d.name ++ (if emptyF d = true then [⟨8, d.name⟩] else []) ++ (if badKind d = true then [⟨9, d.name⟩] else []) ++ (if circB ds d = true then [⟨5, d.name⟩] else [])
theorem namesF_len (n : Str) (a b : Bool) (s : Str) : (namesF n a b s).length ≤ 2 := by
  unfold namesF; split <;> split <;> simp
theorem whole_ok (H : Pr P) (ds : List Def) (hD : DocOk ds) (hil : ∀ o, o ∈ ds → o.inputs.length ≤ 2199023255552) (i : Nat) (d : Def) (h : ds[i]? = some d) : FnOk P 102 [docV ds, .t (.int .i64 i)] ⟨[], 0⟩ { v := .t (.lst ((wholeF ds i d).map Fault.enc)) } := by
  have hdm := List.mem_of_getElem? h
  have hd := hD.d d hdm
  have hnm := hd.nm
  have hdl := hD.l
  have hi : i < ds.length := (List.getElem?_eq_some_iff.1 h).1
  have hnl := namesF_len d.name false (twiceF ds i d.name) d.name
  have e0 : twiceF ds i d.name = (scalF d.name || (ds.take i).any fun o => o.name == d.name) := rfl
  refine FnOk.run H.i102 H.mixed rfl rfl ?_
  refine fR rfl ?_
  refine Mid.elemMap rfl rfl rfl h rfl rfl ?_
  refine fM rfl ?_
  refine Mid.call (rScalar_ok H d.name) rfl rfl rfl rfl ?_
  refine fM rfl ?_
  refine rList (ds.take i) (fun j (B : Bool) => { env := [(1, .t (.int .i64 i)), (2, .ptr 0 0), (5, .ptr 1 0), (6, .t (.bool B)), (7, .t (.int .i64 j))], s := ⟨[(0, .cells [.t (.lst (ds.map Def.enc))]), (1, .cells [.t (.int .i64 d.kind), .t (.str d.name), .t (.lst (d.implements.map sE)), .t (.lst (d.dirs.map Dir.enc)), .t (.lst (d.fields.map Field.enc)), .t (.lst (d.members.map Member.enc)), .t (.lst (d.inputs.map Input.enc))])], 2⟩ }) (fun r j B => twiceF ds i d.name = (B || r.any fun o => o.name == d.name)) 2 (scalF d.name) rfl e0 rfl rfl rfl ?_ ?_
  · intro B hB
    have hl : (ds.take i).length = i := by simp; omega
    have hB' : twiceF ds i d.name = B := by rw [hB]; simp
    rw [hl]
    have t0 : ∀ L : List Fault, L.length ≤ 5 → L = wholeF ds i d → Run P n102 0 (EndOk ⟨[], 0⟩ { v := .t (.lst ((wholeF ds i d).map Fault.enc)) } r102 .ret) (advK 200 [It.c c102_0]) { env := [(8, .own 2 2 (L.map Fault.enc))], s := ⟨[(2, .arr L.length)], 3⟩ } := by
      rintro L hLl rfl
      refine fR rfl ?_
      refine Run.fin rfl (EndOk.go ?_); exact .own rfl
    have t3 : ∀ L : List Fault, L.length ≤ 4 → L ++ (if circB ds d = true then [⟨5, d.name⟩] else []) = wholeF ds i d → Run P n102 0 (EndOk ⟨[], 0⟩ { v := .t (.lst ((wholeF ds i d).map Fault.enc)) } r102 .ret) (advK 200 [It.c c102_3]) { env := [(2, .ptr 0 0), (5, .ptr 1 0), (8, .own 2 2 (L.map Fault.enc))], s := ⟨[(0, .cells [.t (.lst (ds.map Def.enc))]), (1, .cells [.t (.int .i64 d.kind), .t (.str d.name), .t (.lst (d.implements.map sE)), .t (.lst (d.dirs.map Dir.enc)), .t (.lst (d.fields.map Field.enc)), .t (.lst (d.members.map Member.enc)), .t (.lst (d.inputs.map Input.enc))]), (2, .arr L.length)], 3⟩ } := by
      rintro L hLl hL
      refine fR rfl ?_
      refine Mid.call (circular_ok H ds hD d hd (by intro o ho; rcases List.mem_cons.1 ho with rfl | ho; exact hil _ hdm; exact hil _ ho)) rfl rfl rfl rfl ?_
      refine fM rfl ?_
      refine Run.cond rfl rfl (fun hc => ?_) (fun hc => ?_)
      · refine fR rfl ?_
        refine apM Fault.enc L [(⟨5, d.name⟩ : Fault)] rfl rfl rfl rfl rfl ?_ (h1 := by simp; omega) (h2 := by simp; omega)
        refine Mid.fast (f := 1) rfl trivial ?_
        refine Mid.done0 rfl ?_
        exact rWeakC 3 rfl (t0 (L ++ [⟨5, d.name⟩]) (by simp; omega) (by rw [← hL, if_pos (show circB ds d = true from hc)] <;> simp)) rfl rfl rfl
      · exact rWeakC 3 rfl (t0 L (by omega) (by rw [← hL, if_neg (show ¬ circB ds d = true by rw [show circB ds d = false from hc]; simp)] <;> simp)) rfl rfl rfl
    have t7 : ∀ L : List Fault, L.length ≤ 3 → L ++ (if badKind d = true then [⟨9, d.name⟩] else []) ++ (if circB ds d = true then [⟨5, d.name⟩] else []) = wholeF ds i d → Run P n102 0 (EndOk ⟨[], 0⟩ { v := .t (.lst ((wholeF ds i d).map Fault.enc)) } r102 .ret) (advK 200 [It.c c102_7]) { env := [(2, .ptr 0 0), (5, .ptr 1 0), (8, .own 2 2 (L.map Fault.enc))], s := ⟨[(0, .cells [.t (.lst (ds.map Def.enc))]), (1, .cells [.t (.int .i64 d.kind), .t (.str d.name), .t (.lst (d.implements.map sE)), .t (.lst (d.dirs.map Dir.enc)), .t (.lst (d.fields.map Field.enc)), .t (.lst (d.members.map Member.enc)), .t (.lst (d.inputs.map Input.enc))]), (2, .arr L.length)], 3⟩ } := by
      rintro L hLl hL
      refine fR rfl ?_
      refine Run.cond rfl rfl (fun hb => ?_) (fun hb => ?_)
      · refine fR rfl ?_
        refine apM Fault.enc L [(⟨9, d.name⟩ : Fault)] rfl rfl rfl rfl rfl ?_ (h1 := by simp; omega) (h2 := by simp; omega)
        refine Mid.fast (f := 1) rfl trivial ?_
        refine Mid.done0 rfl ?_
        exact rWeakC 3 rfl (t3 (L ++ [⟨9, d.name⟩]) (by simp; omega) (by rw [← hL, if_pos (show badKind d = true from hb)] <;> simp)) rfl rfl rfl
      · exact rWeakC 3 rfl (t3 L (by omega) (by rw [← hL, if_neg (show ¬ badKind d = true by rw [show badKind d = false from hb]; simp)] <;> simp)) rfl rfl rfl
    refine fR rfl ?_
    refine Run.condF rfl rfl (by simp) ?_
    refine fR rfl ?_
    rw [hB'] at hnl
    refine Mid.callO [] (namesO_ok H d.name hnm false B d.name) rfl rfl rfl rfl (by simp [stoBd]) (by repeat' (first | exact trivial | exact rfl | refine And.intro ?_ ?_ | exact (congrArg some (AObj.ren_mE _ _ _ _ _ _)).symm | exact (congrArg some (AObj.ren_cE _ _ _)).symm)) rfl rfl (ob' := [(2, .arr (namesF d.name false B d.name).length)]) (rfl) rfl rfl ?_
    refine fM rfl ?_
    refine Mid.call (empty_ok H d) rfl rfl rfl rfl ?_
    refine fM rfl ?_
    have hL : namesF d.name false B d.name ++ (if emptyF d = true then [⟨8, d.name⟩] else []) ++ (if badKind d = true then [⟨9, d.name⟩] else []) ++ (if circB ds d = true then [⟨5, d.name⟩] else []) = wholeF ds i d := by unfold wholeF; rw [hB']
    generalize namesF d.name false B d.name = L at hL hnl
    refine Run.cond rfl rfl (fun he => ?_) (fun he => ?_)
    · refine fR rfl ?_
      refine apM Fault.enc L [(⟨8, d.name⟩ : Fault)] rfl rfl rfl rfl rfl ?_ (h1 := by simp; omega) (h2 := by simp; omega)
      refine Mid.fast (f := 1) rfl trivial ?_
      refine Mid.done0 rfl ?_
      exact rWeakC 3 rfl (t7 (L ++ [⟨8, d.name⟩]) (by simp; omega) (by rw [← hL, if_pos (show emptyF d = true from he)] <;> simp)) rfl rfl rfl
    · exact rWeakC 3 rfl (t7 L (by omega) (by rw [← hL, if_neg (show ¬ emptyF d = true by rw [show emptyF d = false from he]; simp)] <;> simp)) rfl rfl rfl
  · intro j o r B h1 hj hjd hB ih
    have hji : j < i := by simp at hj; omega
    have ho : ds[j]? = some o := by rw [List.getElem?_take] at h1; rw [if_pos hji] at h1; exact h1
    have hjl : j < ds.length := by omega
    refine fR rfl ?_
    refine Run.condT rfl rfl (by simp; omega) ?_
    refine fR rfl ?_
    refine elG rfl rfl rfl rfl ho rfl rfl ?_
    refine fM rfl ?_
    refine aL rfl rfl rfl rfl rfl ?_
    refine fM rfl ?_
    exact rWeak 2 rfl (ih (B || o.name == d.name) (by rw [hB]; simp only [List.any_cons]; cases B <;> simp)) rfl rfl rfl
end Go.GB.C11

/-
  D11V: contracts of chapter 11's functions: the lists of the schema's check.
-/
namespace Go.GB.C11
open Go.GB
set_option linter.unusedSimpArgs false
set_option linter.unusedVariables false
set_option maxRecDepth 100000
set_option maxHeartbeats 2000000
variable {P : Program}

def inOne (ds : List Def) (p : List Input) (x : Input) (at_ : Str) : List Fault :=
  namesF x.name false (findInput x.name p).isSome at_ ++ (if knownF ds x.ty.name = false then [⟨8, at_⟩] else if isInF ds x.ty.name = false then [⟨10, at_⟩] else [])
def inF (ds : List Def) (pre post : Str) : List Input → List Input → List Fault
  | _, [] => []
  | p, x :: r => inOne ds p x (pre ++ x.name ++ post) ++ inF ds pre post (p ++ [x]) r
theorem inputs_ok (H : Pr P) (ds : List Def) (hD : DocOk ds) (l : List Input) (hl : l.length ≤ 140737488355328) (hlo : ∀ y, y ∈ l → y.Ok) (pre post : Str) (hp : pre.length ≤ 1125899906842624) (hq : post.length ≤ 1125899906842624) (ht : (inF ds pre post [] l).length ≤ 4398046511104) :
    FnOk P 105 [docV ds, .t (.lst (l.map Input.enc)), .t (.str pre), .t (.str post)] ⟨[], 0⟩ { v := .t (.lst ((inF ds pre post [] l).map Fault.enc)) } := by
  generalize hT : inF ds pre post [] l = tot at ht
  refine FnOk.run H.i105 H.mixed rfl rfl ?_
  refine fR rfl ?_
  refine rList l (fun i (B : List Fault) => { env := [(1, .t (.lst (l.map Input.enc))), (2, .t (.str pre)), (3, .t (.str post)), (4, .ptr 0 0), (9, .own 1 2 (B.map Fault.enc)), (10, .t (.int .i64 i))], s := ⟨[(0, .cells [.t (.lst (ds.map Def.enc))]), (1, .arr B.length)], 2⟩ }) (fun r i B => B ++ inF ds pre post (l.take i) r = tot) 1 [] rfl (by simpa using hT) rfl rfl rfl ?_ ?_
  · rintro B hB
    obtain rfl : B = tot := by rw [← hB]; simp [inF]
    refine fR rfl ?_
    refine lM rfl rfl rfl ?_
    refine fM rfl ?_
    refine Run.condF rfl rfl (by simp) ?_
    refine fR rfl ?_
    refine Run.fin rfl (EndOk.go ?_); exact .own rfl
  · rintro i x r B h1 hi hd hB ih
    have hx := hlo x (List.mem_of_getElem? h1)
    have hxn := hx.nm
    have htk : l.take i ++ [x] = l.take (i + 1) := by rw [List.take_add_one, h1]; rfl
    have htkl : (l.take i).length ≤ 140737488355328 := by simp; omega
    simp only [inF, inOne, htk] at hB
    generalize hAt : pre ++ x.name ++ post = at_ at hB
    have hatl : at_.length ≤ 4503599627370496 := by rw [← hAt]; simp; omega
    have hlen := congrArg List.length hB
    simp only [List.length_append] at hlen
    refine fR rfl ?_
    refine lM rfl rfl rfl ?_
    refine fM rfl ?_
    refine Run.condT rfl rfl (by simp; omega) ?_
    refine fR rfl ?_
    refine Mid.elemMap rfl rfl rfl h1 rfl rfl ?_
    refine fM rfl ?_
    refine pu rfl ?_
    refine fM rfl ?_
    refine pu rfl ?_
    refine fM rfl ?_
    refine lTo rfl rfl rfl rfl ?_
    refine fM rfl ?_
    rw [hAt]
    refine Mid.elemMap rfl rfl rfl h1 rfl rfl ?_
    refine fM rfl ?_
    refine Mid.call (rInputOf_ok H (l.take i) htkl x.name) rfl rfl rfl rfl ?_
    refine fM rfl ?_
    refine Mid.elemMap rfl rfl rfl h1 rfl rfl ?_
    refine fM rfl ?_
    refine Mid.call (names_ok H x.name hxn false (findInput x.name (l.take i)).isSome at_) rfl rfl rfl rfl ?_
    skip
    generalize namesF x.name false (findInput x.name (l.take i)).isSome at_ = N at hB hlen
    refine apM Fault.enc B N rfl rfl rfl rfl rfl ?_ (h1 := by first | omega | (simp; omega) | (simp; done)) (h2 := by first | omega | (simp; omega) | (simp; done))
    refine fM rfl ?_
    refine Mid.elemMap rfl rfl rfl h1 rfl rfl ?_
    refine fM rfl ?_
    refine Mid.call (known_ok H ds hD x.ty.name) rfl rfl rfl rfl ?_
    refine fM rfl ?_
    refine Run.cond rfl rfl (fun hk => ?_) (fun hk => ?_)
    · have hk' : knownF ds x.ty.name = false := by simpa using hk
      rw [if_pos hk'] at hB hlen
      simp only [List.length_cons, List.length_nil] at hlen
      refine fR rfl ?_
      refine apM Fault.enc (B ++ N) [(⟨8, at_⟩ : Fault)] rfl rfl rfl rfl rfl ?_ (h1 := by first | omega | (simp; omega) | (simp; done)) (h2 := by first | omega | (simp; omega) | (simp; done))
      refine fM rfl ?_
      refine aL rfl rfl rfl rfl rfl ?_
      refine fM rfl ?_
      exact rWeak 2 rfl (ih (B ++ N ++ [⟨8, at_⟩]) (by rw [← hB]; simp)) rfl rfl rfl
    · have hk' : ¬ knownF ds x.ty.name = false := by simpa using hk
      rw [if_neg hk'] at hB hlen
      refine fR rfl ?_
      refine Mid.elemMap rfl rfl rfl h1 rfl rfl ?_
      refine fM rfl ?_
      refine Mid.call (isInput_ok H ds hD x.ty.name) rfl rfl rfl rfl ?_
      refine fM rfl ?_
      refine Run.cond rfl rfl (fun hy => ?_) (fun hy => ?_)
      · have hy' : isInF ds x.ty.name = false := by simpa using hy
        rw [if_pos hy'] at hB hlen
        simp only [List.length_cons, List.length_nil] at hlen
        refine fR rfl ?_
        refine apM Fault.enc (B ++ N) [(⟨10, at_⟩ : Fault)] rfl rfl rfl rfl rfl ?_ (h1 := by first | omega | (simp; omega) | (simp; done)) (h2 := by first | omega | (simp; omega) | (simp; done))
        refine fM rfl ?_
        refine aL rfl rfl rfl rfl rfl ?_
        refine fM rfl ?_
        exact rWeak 2 rfl (ih (B ++ N ++ [⟨10, at_⟩]) (by rw [← hB]; simp)) rfl rfl rfl
      · have hy' : ¬ isInF ds x.ty.name = false := by simpa using hy
        rw [if_neg hy'] at hB hlen
        refine fR rfl ?_
        refine aL rfl rfl rfl rfl rfl ?_
        refine fM rfl ?_
        exact rWeak 2 rfl (ih (B ++ N) (by rw [← hB]; simp)) rfl rfl rfl

def fldB (ds : List Def) (n : Str) : Bool := !scalF n && (findDef n ds).isSome && ((findDef n ds).getD Def.zero).kind == 5
def fldOne (ds : List Def) (p : List Field) (x : Field) (at_ : Str) : List Fault :=
  namesF x.name false (findField x.name p).isSome at_ ++ (if knownF ds x.ty.name = false then [⟨8, at_⟩] else if fldB ds x.ty.name = true then [⟨10, at_⟩] else []) ++ inF ds (at_ ++ [40]) [41] [] x.args
def fldL (ds : List Def) (n : Str) : List Field → List Field → List Fault
  | _, [] => []
  | p, x :: r => fldOne ds p x (n ++ [46] ++ x.name) ++ fldL ds n (p ++ [x]) r
theorem fields_ok (H : Pr P) (ds : List Def) (hD : DocOk ds) (d : Def) (hd : d.Ok) (ht : (fldL ds d.name [] d.fields).length ≤ 4398046511104) : FnOk P 103 [docV ds, d.v] ⟨[], 0⟩ { v := .t (.lst ((fldL ds d.name [] d.fields).map Fault.enc)) } := by
  have hfl := hd.fl
  have hnm := hd.nm
  generalize hT : fldL ds d.name [] d.fields = tot at ht
  refine FnOk.run H.i103 H.mixed rfl rfl ?_
  refine fR rfl ?_
  refine rList d.fields (fun i (B : List Fault) => { env := [(2, .ptr 0 0), (3, .ptr 1 0), (5, .own 2 2 (B.map Fault.enc)), (6, .t (.int .i64 i))], s := ⟨[(0, .cells [.t (.lst (ds.map Def.enc))]), (1, .cells [.t (.int .i64 d.kind), .t (.str d.name), .t (.lst (d.implements.map sE)), .t (.lst (d.dirs.map Dir.enc)), .t (.lst (d.fields.map Field.enc)), .t (.lst (d.members.map Member.enc)), .t (.lst (d.inputs.map Input.enc))]), (2, .arr B.length)], 3⟩ }) (fun r i B => B ++ fldL ds d.name (d.fields.take i) r = tot) 2 [] rfl (by simpa using hT) rfl rfl rfl ?_ ?_
  · rintro B hB
    obtain rfl : B = tot := by rw [← hB]; simp [fldL]
    refine fR rfl ?_
    refine lM rfl rfl rfl ?_
    refine fM rfl ?_
    refine Run.condF rfl rfl (by simp) ?_
    refine fR rfl ?_
    refine Run.fin rfl (EndOk.go ?_); exact .own rfl
  · rintro i x r B h1 hi hdr hB ih
    have hx := hd.f x (List.mem_of_getElem? h1)
    have hxn := hx.nm
    have hxl := hx.al
    have htk : d.fields.take i ++ [x] = d.fields.take (i + 1) := by rw [List.take_add_one, h1]; rfl
    have htkl : (d.fields.take i).length ≤ 140737488355328 := by simp; omega
    simp only [fldL, fldOne, htk] at hB
    generalize hAt : d.name ++ [46] ++ x.name = at_ at hB
    have hatl : at_.length ≤ 1125899906842000 := by rw [← hAt]; simp; omega
    have hlen := congrArg List.length hB
    simp only [List.length_append] at hlen
    refine fR rfl ?_
    refine lM rfl rfl rfl ?_
    refine fM rfl ?_
    refine Run.condT rfl rfl (by simp; omega) ?_
    refine fR rfl ?_
    refine Mid.elemMap rfl rfl rfl h1 rfl rfl ?_
    refine fM rfl ?_
    refine pu rfl ?_
    refine fM rfl ?_
    refine pu rfl ?_
    refine fM rfl ?_
    refine lTo rfl rfl rfl rfl ?_
    refine fM rfl ?_
    rw [hAt]
    refine Mid.call (rFieldOf_ok H ⟨0, [], [], [], d.fields.take i, [], []⟩ htkl x.name) rfl rfl rfl rfl ?_
    refine fM rfl ?_
    refine Mid.call (names_ok H x.name hxn false (findField x.name (d.fields.take i)).isSome at_) rfl rfl rfl rfl ?_
    skip
    generalize namesF x.name false (findField x.name (d.fields.take i)).isSome at_ = N at hB hlen
    refine apM Fault.enc B N rfl rfl rfl rfl rfl ?_ (h1 := by first | omega | (simp; omega) | (simp; done)) (h2 := by first | omega | (simp; omega) | (simp; done))
    refine fM rfl ?_
    refine Mid.call (rFind_ok H ds hD.l x.ty.name) rfl rfl rfl rfl ?_
    refine fM rfl ?_
    refine Mid.call (known_ok H ds hD x.ty.name) rfl rfl rfl rfl ?_
    refine fM rfl ?_
    refine Run.cond rfl rfl (fun hk => ?_) (fun hk => ?_)
    · have hk' : knownF ds x.ty.name = false := by simpa using hk
      rw [if_pos hk'] at hB hlen
      simp only [List.length_cons, List.length_nil] at hlen
      refine fR rfl ?_
      refine apM Fault.enc (B ++ N) [(⟨8, at_⟩ : Fault)] rfl rfl rfl rfl rfl ?_ (h1 := by first | omega | (simp; omega) | (simp; done)) (h2 := by first | omega | (simp; omega) | (simp; done))
      refine fM rfl ?_
      refine pu rfl ?_
      refine Mid.call (inputs_ok H ds hD x.args hxl hx.a (at_ ++ [40]) [41] (by simp; omega) (by decide) (by omega)) rfl rfl rfl rfl ?_
      skip
      generalize inF ds (at_ ++ [40]) [41] [] x.args = M at hB hlen
      refine apM Fault.enc (B ++ N ++ [⟨8, at_⟩]) M rfl rfl rfl rfl rfl ?_ (h1 := by first | omega | (simp; omega) | (simp; done)) (h2 := by first | omega | (simp; omega) | (simp; done))
      refine fM rfl ?_
      refine aL rfl rfl rfl rfl rfl ?_
      refine fM rfl ?_
      exact rWeak 3 rfl (ih (B ++ N ++ [⟨8, at_⟩] ++ M) (by rw [← hB]; simp)) rfl rfl rfl
    · have hk' : ¬ knownF ds x.ty.name = false := by simpa using hk
      rw [if_neg hk'] at hB hlen
      refine fR rfl ?_
      refine Mid.call (rScalar_ok H x.ty.name) rfl rfl rfl rfl ?_
      refine fM rfl ?_
      refine Run.cond rfl rfl (fun hy => ?_) (fun hy => ?_)
      · have hy' : fldB ds x.ty.name = true := hy
        rw [if_pos hy'] at hB hlen
        simp only [List.length_cons, List.length_nil] at hlen
        refine fR rfl ?_
        refine apM Fault.enc (B ++ N) [(⟨10, at_⟩ : Fault)] rfl rfl rfl rfl rfl ?_ (h1 := by first | omega | (simp; omega) | (simp; done)) (h2 := by first | omega | (simp; omega) | (simp; done))
        refine fM rfl ?_
        refine pu rfl ?_
        refine Mid.call (inputs_ok H ds hD x.args hxl hx.a (at_ ++ [40]) [41] (by simp; omega) (by decide) (by omega)) rfl rfl rfl rfl ?_
        skip
        generalize inF ds (at_ ++ [40]) [41] [] x.args = M at hB hlen
        refine apM Fault.enc (B ++ N ++ [⟨10, at_⟩]) M rfl rfl rfl rfl rfl ?_ (h1 := by first | omega | (simp; omega) | (simp; done)) (h2 := by first | omega | (simp; omega) | (simp; done))
        refine fM rfl ?_
        refine aL rfl rfl rfl rfl rfl ?_
        refine fM rfl ?_
        exact rWeak 3 rfl (ih (B ++ N ++ [⟨10, at_⟩] ++ M) (by rw [← hB]; simp)) rfl rfl rfl
      · have hy' : ¬ fldB ds x.ty.name = true := by rw [show fldB ds x.ty.name = false from hy]; simp
        rw [if_neg hy'] at hB hlen
        simp only [List.length_nil] at hlen
        refine fR rfl ?_
        refine pu rfl ?_
        refine Mid.call (inputs_ok H ds hD x.args hxl hx.a (at_ ++ [40]) [41] (by simp; omega) (by decide) (by omega)) rfl rfl rfl rfl ?_
        skip
        generalize inF ds (at_ ++ [40]) [41] [] x.args = M at hB hlen
        refine apM Fault.enc (B ++ N) M rfl rfl rfl rfl rfl ?_ (h1 := by first | omega | (simp; omega) | (simp; done)) (h2 := by first | omega | (simp; omega) | (simp; done))
        refine fM rfl ?_
        refine aL rfl rfl rfl rfl rfl ?_
        refine fM rfl ?_
        exact rWeak 3 rfl (ih (B ++ N ++ M) (by rw [← hB]; simp)) rfl rfl rfl

theorem findDef_pre {ds : List Def} : True := trivial
def memBad (n : Str) : Bool := n == [116, 114, 117, 101] || n == [102, 97, 108, 115, 101] || n == [110, 117, 108, 108]
def memL (t : Str) : List Member → List Member → List Fault
  | _, [] => []
  | p, x :: r => namesF x.name (memBad x.name) (memF p x.name) (t ++ [46] ++ x.name) ++ memL t (p ++ [x]) r
theorem members_ok (H : Pr P) (d : Def) (hd : d.Ok) (ht : (memL d.name [] d.members).length ≤ 4398046511104) : FnOk P 104 [d.v] ⟨[], 0⟩ { v := .t (.lst ((memL d.name [] d.members).map Fault.enc)) } := by
  have hfl := hd.ml
  have hnm := hd.nm
  generalize hT : memL d.name [] d.members = tot at ht
  refine FnOk.run H.i104 H.mixed rfl rfl ?_
  refine fR rfl ?_
  refine rList d.members (fun i (B : List Fault) => { env := [(1, .ptr 0 0), (3, .own 1 2 (B.map Fault.enc)), (4, .t (.int .i64 i))], s := ⟨[(0, .cells [.t (.int .i64 d.kind), .t (.str d.name), .t (.lst (d.implements.map sE)), .t (.lst (d.dirs.map Dir.enc)), .t (.lst (d.fields.map Field.enc)), .t (.lst (d.members.map Member.enc)), .t (.lst (d.inputs.map Input.enc))]), (1, .arr B.length)], 2⟩ }) (fun r i B => B ++ memL d.name (d.members.take i) r = tot) 1 [] rfl (by simpa using hT) rfl rfl rfl ?_ ?_
  · rintro B hB
    obtain rfl : B = tot := by rw [← hB]; simp [memL]
    refine fR rfl ?_
    refine lM rfl rfl rfl ?_
    refine fM rfl ?_
    refine Run.condF rfl rfl (by simp) ?_
    refine fR rfl ?_
    refine Run.fin rfl (EndOk.go ?_); exact .own rfl
  · rintro i x r B h1 hi hdr hB ih
    have hx := hd.m x (List.mem_of_getElem? h1)
    have hxn := hx.nm
    have htk : d.members.take i ++ [x] = d.members.take (i + 1) := by rw [List.take_add_one, h1]; rfl
    have htkl : (d.members.take i).length ≤ 140737488355328 := by simp; omega
    simp only [memL, htk] at hB
    generalize hAt : d.name ++ [46] ++ x.name = at_ at hB
    have hatl : at_.length ≤ 1125899906842000 := by rw [← hAt]; simp; omega
    have hlen := congrArg List.length hB
    simp only [List.length_append] at hlen
    refine fR rfl ?_
    refine lM rfl rfl rfl ?_
    refine fM rfl ?_
    refine Run.condT rfl rfl (by simp; omega) ?_
    refine fR rfl ?_
    refine Mid.elemMap rfl rfl rfl h1 rfl rfl ?_
    refine fM rfl ?_
    refine rList (d.members.take i) (fun j (C : Bool) => { env := [(1, .ptr 0 0), (3, .own 1 2 (B.map Fault.enc)), (4, .t (.int .i64 i)), (5, .t (.str x.name)), (6, .t (.bool C)), (7, .t (.int .i64 j))], s := ⟨[(0, .cells [.t (.int .i64 d.kind), .t (.str d.name), .t (.lst (d.implements.map sE)), .t (.lst (d.dirs.map Dir.enc)), .t (.lst (d.fields.map Field.enc)), .t (.lst (d.members.map Member.enc)), .t (.lst (d.inputs.map Input.enc))]), (1, .arr B.length)], 2⟩ }) (fun r j C => memF (d.members.take i) x.name = (C || memF r x.name)) 2 false rfl (by simp) rfl rfl rfl ?_ ?_
    · intro C hC
      have hl : (d.members.take i).length = i := by simp; omega
      have hC' : memF (d.members.take i) x.name = C := by rw [hC]; simp [memF]
      rw [hl]
      rw [hC'] at hB hlen
      refine fR rfl ?_
      refine Run.condF rfl rfl (by simp) ?_
      refine fR rfl ?_
      refine pu rfl ?_
      refine fM rfl ?_
      refine pu rfl ?_
      rw [hAt]
      refine Mid.call (names_ok H x.name hxn (memBad x.name) C at_) rfl rfl rfl rfl ?_
      skip
      generalize namesF x.name (memBad x.name) C at_ = N at hB hlen
      refine apM Fault.enc B N rfl rfl rfl rfl rfl ?_ (h1 := by first | omega | (simp; omega) | (simp; done)) (h2 := by first | omega | (simp; omega) | (simp; done))
      refine fM rfl ?_
      refine aL rfl rfl rfl rfl rfl ?_
      refine fM rfl ?_
      exact rWeak 2 rfl (ih (B ++ N) (by rw [← hB]; simp)) rfl rfl rfl
    · intro j o r2 C h2 hj hjd hC ih2
      have hji : j < i := by simp at hj; omega
      have ho : d.members[j]? = some o := by rw [List.getElem?_take] at h2; rw [if_pos hji] at h2; exact h2
      have hjl : j < d.members.length := by omega
      refine fR rfl ?_
      refine Run.condT rfl rfl (by simp; omega) ?_
      refine fR rfl ?_
      refine elG rfl rfl rfl rfl ho rfl rfl ?_
      refine fM rfl ?_
      refine aL rfl rfl rfl rfl rfl ?_
      refine fM rfl ?_
      exact rWeak 2 rfl (ih2 (C || o.name == x.name) (by rw [hC]; simp only [memF, List.any_cons]; cases C <;> simp)) rfl rfl rfl
end Go.GB.C11

/-
  D11W: contracts of chapter 11's functions: the schema's check.
-/
namespace Go.GB.C11
open Go.GB
set_option linter.unusedSimpArgs false
set_option linter.unusedVariables false
set_option maxRecDepth 100000
set_option maxHeartbeats 2000000
variable {P : Program}

def tQuery : Str := [81, 117, 101, 114, 121]
def chkK (ds : List Def) (d : Def) : List Fault :=
  if d.kind = 1 then fldL ds d.name [] d.fields else if d.kind = 2 then fldL ds d.name [] d.fields
  else if d.kind = 4 then memL d.name [] d.members else if d.kind = 5 then inF ds (d.name ++ [46]) [] [] d.inputs else []
def chkL (ds : List Def) : Nat → List Def → List Fault
  | _, [] => []
  | i, d :: r => wholeF ds i d ++ chkK ds d ++ chkL ds (i + 1) r
def chkQ (ds : List Def) (q : Bool) : List Fault := if (q && !(findDef tQuery ds).isSome) = true then [⟨30, tQuery⟩] else []
def checkF (ds : List Def) (q : Bool) : List Fault := chkL ds 0 ds ++ chkQ ds q
theorem check_ok (H : Pr P) (ds : List Def) (hD : DocOk ds) (hil : ∀ o, o ∈ ds → o.inputs.length ≤ 2199023255552) (q : Bool) (ht : (checkF ds q).length ≤ 4398046511104) : FnOk P 55 [docV ds, .t (.bool q)] ⟨[], 0⟩ { v := .t (.lst ((checkF ds q).map Fault.enc)) } := by
  have hdl := hD.l
  have hT : chkL ds 0 ds ++ chkQ ds q = checkF ds q := rfl
  generalize checkF ds q = tot at ht hT
  refine FnOk.run H.i55 H.mixed rfl rfl ?_
  refine fR rfl ?_
  refine rList ds (fun i (B : List Fault) => { env := [(1, .t (.bool q)), (2, .ptr 0 0), (5, .own 1 2 (B.map Fault.enc)), (6, .t (.int .i64 i))], s := ⟨[(0, .cells [.t (.lst (ds.map Def.enc))]), (1, .arr B.length)], 2⟩ }) (fun r i B => B ++ chkL ds i r ++ chkQ ds q = tot) 1 [] rfl (by simpa using hT) rfl rfl rfl ?_ ?_
  · rintro B hB
    simp only [chkL, List.append_nil] at hB
    have hlen := congrArg List.length hB
    simp only [List.length_append] at hlen
    refine fR rfl ?_
    refine lM rfl rfl rfl ?_
    refine fM rfl ?_
    refine Run.condF rfl rfl (by simp) ?_
    refine fR rfl ?_
    refine Mid.call (rFind_ok H ds hD.l tQuery) rfl rfl rfl rfl ?_
    refine fM rfl ?_
    refine Run.cond rfl rfl (fun hc => ?_) (fun hc => ?_)
    · have hc' : chkQ ds q = [⟨30, tQuery⟩] := by unfold chkQ; rw [if_pos (show (q && !(findDef tQuery ds).isSome) = true from hc)]
      rw [hc'] at hB hlen
      simp only [List.length_cons, List.length_nil] at hlen
      refine fR rfl ?_
      refine apM Fault.enc B [(⟨30, tQuery⟩ : Fault)] rfl rfl rfl rfl rfl ?_ (h1 := by first | omega | (simp; omega) | (simp; done)) (h2 := by first | omega | (simp; omega) | (simp; done))
      refine fM rfl ?_
      refine Run.fin rfl (EndOk.go ?_); exact .own (by rw [hB])
    · have hc' : chkQ ds q = [] := by unfold chkQ; rw [if_neg (by rw [show (q && !(findDef tQuery ds).isSome) = false from hc]; simp)]
      rw [hc'] at hB
      refine fR rfl ?_
      refine Run.fin rfl (EndOk.go ?_); exact .own (by rw [← hB]; simp)
  · rintro i d r B h1 hi hdr hB ih
    have hd := hD.d d (List.mem_of_getElem? h1)
    have hnm := hd.nm
    have hnl := hd.nl
    simp only [chkL] at hB
    have hlen := congrArg List.length hB
    simp only [List.length_append] at hlen
    refine fR rfl ?_
    refine lM rfl rfl rfl ?_
    refine fM rfl ?_
    refine Run.condT rfl rfl (by simp; omega) ?_
    refine fR rfl ?_
    refine Mid.elemMap rfl rfl rfl h1 rfl rfl ?_
    refine fM rfl ?_
    refine Mid.call (whole_ok H ds hD hil i d h1) rfl rfl rfl rfl ?_
    skip
    generalize wholeF ds i d = W at hB hlen
    refine apM Fault.enc B W rfl rfl rfl rfl rfl ?_ (h1 := by first | omega | (simp; omega) | (simp; done)) (h2 := by first | omega | (simp; omega) | (simp; done))
    refine fM rfl ?_
    unfold chkK at hB hlen
    refine Run.cond rfl rfl (fun k1 => ?_) (fun k1 => ?_)
    · have k1' : d.kind = 1 := by simpa using k1
      rw [if_pos k1'] at hB hlen
      skip
      refine Run.condT rfl rfl k1 ?_
      refine fR rfl ?_
      refine Mid.call (fields_ok H ds hD d hd (by omega)) rfl rfl rfl rfl ?_
      skip
      generalize fldL ds d.name [] d.fields = M at hB hlen
      refine apM Fault.enc (B ++ W) M rfl rfl rfl rfl rfl ?_ (h1 := by first | omega | (simp; omega) | (simp; done)) (h2 := by first | omega | (simp; omega) | (simp; done))
      refine fM rfl ?_
      refine aL rfl rfl rfl rfl rfl ?_
      refine fM rfl ?_
      exact rWeak 2 rfl (ih (B ++ W ++ M) (by rw [← hB]; simp)) rfl rfl rfl
    · have k1' : ¬ d.kind = 1 := by simpa using k1
      rw [if_neg k1'] at hB hlen
      refine fR rfl ?_
      refine Run.cond rfl rfl (fun k2 => ?_) (fun k2 => ?_)
      · have k2' : d.kind = 2 := by simpa using k2
        rw [if_pos k2'] at hB hlen
        refine fR rfl ?_
        refine Mid.call (fields_ok H ds hD d hd (by omega)) rfl rfl rfl rfl ?_
        skip
        generalize fldL ds d.name [] d.fields = M at hB hlen
        refine apM Fault.enc (B ++ W) M rfl rfl rfl rfl rfl ?_ (h1 := by first | omega | (simp; omega) | (simp; done)) (h2 := by first | omega | (simp; omega) | (simp; done))
        refine fM rfl ?_
        refine aL rfl rfl rfl rfl rfl ?_
        refine fM rfl ?_
        exact rWeak 2 rfl (ih (B ++ W ++ M) (by rw [← hB]; simp)) rfl rfl rfl
      · have k2' : ¬ d.kind = 2 := by simpa using k2
        rw [if_neg k2'] at hB hlen
        refine fR rfl ?_
        refine Run.cond rfl rfl (fun k4 => ?_) (fun k4 => ?_)
        · have k4' : d.kind = 4 := by simpa using k4
          rw [if_pos k4'] at hB hlen
          refine fR rfl ?_
          refine Mid.call (members_ok H d hd (by omega)) rfl rfl rfl rfl ?_
          skip
          generalize memL d.name [] d.members = M at hB hlen
          refine apM Fault.enc (B ++ W) M rfl rfl rfl rfl rfl ?_ (h1 := by first | omega | (simp; omega) | (simp; done)) (h2 := by first | omega | (simp; omega) | (simp; done))
          refine fM rfl ?_
          refine aL rfl rfl rfl rfl rfl ?_
          refine fM rfl ?_
          exact rWeak 2 rfl (ih (B ++ W ++ M) (by rw [← hB]; simp)) rfl rfl rfl
        · have k4' : ¬ d.kind = 4 := by simpa using k4
          rw [if_neg k4'] at hB hlen
          refine fR rfl ?_
          refine Run.cond rfl rfl (fun k5 => ?_) (fun k5 => ?_)
          · have k5' : d.kind = 5 := by simpa using k5
            rw [if_pos k5'] at hB hlen
            refine fR rfl ?_
            refine pu rfl ?_
            refine Mid.call (inputs_ok H ds hD d.inputs hnl hd.n (d.name ++ [46]) [] (by simp; omega) (by decide) (by omega)) rfl rfl rfl rfl ?_
            skip
            generalize inF ds (d.name ++ [46]) [] [] d.inputs = M at hB hlen
            refine apM Fault.enc (B ++ W) M rfl rfl rfl rfl rfl ?_ (h1 := by first | omega | (simp; omega) | (simp; done)) (h2 := by first | omega | (simp; omega) | (simp; done))
            refine fM rfl ?_
            refine aL rfl rfl rfl rfl rfl ?_
            refine fM rfl ?_
            exact rWeak 2 rfl (ih (B ++ W ++ M) (by rw [← hB]; simp)) rfl rfl rfl
          · have k5' : ¬ d.kind = 5 := by simpa using k5
            rw [if_neg k5'] at hB hlen
            refine fR rfl ?_
            refine aL rfl rfl rfl rfl rfl ?_
            refine fM rfl ?_
            exact rWeak 2 rfl (ih (B ++ W) (by rw [← hB]; simp)) rfl rfl rfl
end Go.GB.C11
