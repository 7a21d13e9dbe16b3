/-
  YtjbpmfglccfkaaaDoorP8: lemmas of this proof (part 8). No conditions.
-/
import Derived.Test.YtjbpmfglccfkaaaDoorP6
import Derived.Test.YtjbpmfglccfkaaaDoorP4
import Derived.Test.YtjbpmfglccfkaaaDoorP7

/-
  D11U: contracts of chapter 11's functions: the parts of the schema's check.
-/
namespace Go.GB.C11
open Go.GB
set_option linter.unusedSimpArgs false
set_option linter.unusedVariables false
set_option maxRecDepth 100000
set_option maxHeartbeats 2000000
variable {P : Program}

theorem namesO_ok (H : Pr P) (n : Str) (hn : n.length ≤ 140737488355328) (bad twice : Bool) (at_ : Str) : FnOk P 98 [.t (.str n), .t (.bool bad), .t (.bool twice), .t (.str at_)] ⟨[], 0⟩ { v := .own 0 2 ((namesF n bad twice at_).map Fault.enc), ob := [(0, .arr (namesF n bad twice at_).length)], n := 1 } := by
  refine FnOk.run H.i98 H.mixed rfl rfl ?_
  refine fR rfl ?_
  refine caG rfl rfl (fun hg => ⟨_, rfl, allowed_ok H n hn, rfl⟩) rfl rfl ?_
  refine fM rfl ?_
  refine Run.cond rfl rfl (fun h => ?_) (fun h => ?_)
  · refine fR rfl ?_
    refine apN Fault.enc [(⟨6, at_⟩ : Fault)] rfl rfl rfl ?_ (h1 := by first | omega | (simp; omega) | (simp; done)) (h2 := by first | omega | (simp; omega) | (simp; done))
    refine fM rfl ?_
    cases twice with
    | true =>
      refine Run.condT rfl rfl rfl ?_
      refine fR rfl ?_
      refine apM Fault.enc [(⟨6, at_⟩ : Fault)] [(⟨7, at_⟩ : Fault)] rfl rfl rfl rfl rfl ?_ (h1 := by first | omega | (simp; omega) | (simp; done)) (h2 := by first | omega | (simp; omega) | (simp; done))
      refine fM rfl ?_
      have e : namesF n bad true at_ = [⟨6, at_⟩] ++ [⟨7, at_⟩] := by unfold namesF; rw [if_pos h, if_pos rfl]
      rw [e]
      refine Run.fin rfl (EndOk.chg rfl rfl ?_ ?_)
      · exact .le (.same rfl)
      · exact (by repeat' (first | exact trivial | exact LeX.t | exact LeX.top | exact LeX.nilOwn (Nat.le_of_ble_eq_true rfl) (Nat.le_of_ble_eq_true rfl) | exact LeX.ownT | exact LeX.nilT | exact LeX.same rfl | exact LeX.tEq (by simp) | exact LeX.ownEq (by simp) (Nat.le_of_ble_eq_true rfl) | exact LeX.tEq (by congr 1 <;> omega) | exact Or.inr ⟨Nat.le_of_ble_eq_true rfl, Nat.le_of_ble_eq_true rfl, rfl⟩ | refine Or.inl ⟨Nat.le_of_ble_eq_true rfl, _, rfl, ?_⟩ | refine LeO.cells ?_ | exact LeO.arr rfl | exact LeO.arr (by simp) | exact LeO.mE (by first | rfl | simp) (by first | exact Or.inl rfl | exact Or.inr rfl) | exact LeO.cE (by first | rfl | simp) | exact LeXs.cE (by first | rfl | simp) | refine LeO.map (by first | rfl | simp) ?_ (by first | exact Or.inl rfl | exact Or.inr rfl) | exact LeO.iter (by first | rfl | simp) (Nat.le_of_ble_eq_true rfl) | refine LeXs.cons ?_ ?_ | exact LeXs.nil | refine And.intro ?_ ?_))
    | false =>
      refine Run.condF rfl rfl rfl ?_
      refine fR rfl ?_
      have e : namesF n bad false at_ = [⟨6, at_⟩] := by unfold namesF; rw [if_pos h, if_neg (by simp)]; rfl
      rw [e]
      refine Run.fin rfl (EndOk.chg rfl rfl ?_ ?_)
      · exact .le (.same rfl)
      · exact (by repeat' (first | exact trivial | exact LeX.t | exact LeX.top | exact LeX.nilOwn (Nat.le_of_ble_eq_true rfl) (Nat.le_of_ble_eq_true rfl) | exact LeX.ownT | exact LeX.nilT | exact LeX.same rfl | exact LeX.tEq (by simp) | exact LeX.ownEq (by simp) (Nat.le_of_ble_eq_true rfl) | exact LeX.tEq (by congr 1 <;> omega) | exact Or.inr ⟨Nat.le_of_ble_eq_true rfl, Nat.le_of_ble_eq_true rfl, rfl⟩ | refine Or.inl ⟨Nat.le_of_ble_eq_true rfl, _, rfl, ?_⟩ | refine LeO.cells ?_ | exact LeO.arr rfl | exact LeO.arr (by simp) | exact LeO.mE (by first | rfl | simp) (by first | exact Or.inl rfl | exact Or.inr rfl) | exact LeO.cE (by first | rfl | simp) | exact LeXs.cE (by first | rfl | simp) | refine LeO.map (by first | rfl | simp) ?_ (by first | exact Or.inl rfl | exact Or.inr rfl) | exact LeO.iter (by first | rfl | simp) (Nat.le_of_ble_eq_true rfl) | refine LeXs.cons ?_ ?_ | exact LeXs.nil | refine And.intro ?_ ?_))
  · refine fR rfl ?_
    have h' : ¬ (bad || !allowedF n) = true := by rw [h]; simp
    refine rWeakC 0 rfl (st' := { env := [(3, .t (.str at_)), (9, .own 0 2 ([].map Fault.enc)), (21, .t (.bool twice))], s := ⟨[(0, .arr 0)], 1⟩ }) ?_ rfl rfl rfl
    cases twice with
    | true =>
      refine Run.condT rfl rfl rfl ?_
      refine fR rfl ?_
      refine apM Fault.enc [] [(⟨7, at_⟩ : Fault)] rfl rfl rfl rfl rfl ?_ (h1 := by first | omega | (simp; omega) | (simp; done)) (h2 := by first | omega | (simp; omega) | (simp; done))
      refine fM rfl ?_
      have e : namesF n bad true at_ = [⟨7, at_⟩] := by unfold namesF; rw [if_neg h', if_pos rfl]; rfl
      rw [e]
      refine Run.fin rfl (EndOk.chg rfl rfl ?_ ?_)
      · exact .le (.same rfl)
      · exact (by repeat' (first | exact trivial | exact LeX.t | exact LeX.top | exact LeX.nilOwn (Nat.le_of_ble_eq_true rfl) (Nat.le_of_ble_eq_true rfl) | exact LeX.ownT | exact LeX.nilT | exact LeX.same rfl | exact LeX.tEq (by simp) | exact LeX.ownEq (by simp) (Nat.le_of_ble_eq_true rfl) | exact LeX.tEq (by congr 1 <;> omega) | exact Or.inr ⟨Nat.le_of_ble_eq_true rfl, Nat.le_of_ble_eq_true rfl, rfl⟩ | refine Or.inl ⟨Nat.le_of_ble_eq_true rfl, _, rfl, ?_⟩ | refine LeO.cells ?_ | exact LeO.arr rfl | exact LeO.arr (by simp) | exact LeO.mE (by first | rfl | simp) (by first | exact Or.inl rfl | exact Or.inr rfl) | exact LeO.cE (by first | rfl | simp) | exact LeXs.cE (by first | rfl | simp) | refine LeO.map (by first | rfl | simp) ?_ (by first | exact Or.inl rfl | exact Or.inr rfl) | exact LeO.iter (by first | rfl | simp) (Nat.le_of_ble_eq_true rfl) | refine LeXs.cons ?_ ?_ | exact LeXs.nil | refine And.intro ?_ ?_))
    | false =>
      refine Run.condF rfl rfl rfl ?_
      refine fR rfl ?_
      have e : namesF n bad false at_ = [] := by unfold namesF; rw [if_neg h', if_neg (by simp)]; rfl
      rw [e]
      refine Run.fin rfl (EndOk.chg rfl rfl ?_ ?_)
      · exact .le (.same rfl)
      · exact (by repeat' (first | exact trivial | exact LeX.t | exact LeX.top | exact LeX.nilOwn (Nat.le_of_ble_eq_true rfl) (Nat.le_of_ble_eq_true rfl) | exact LeX.ownT | exact LeX.nilT | exact LeX.same rfl | exact LeX.tEq (by simp) | exact LeX.ownEq (by simp) (Nat.le_of_ble_eq_true rfl) | exact LeX.tEq (by congr 1 <;> omega) | exact Or.inr ⟨Nat.le_of_ble_eq_true rfl, Nat.le_of_ble_eq_true rfl, rfl⟩ | refine Or.inl ⟨Nat.le_of_ble_eq_true rfl, _, rfl, ?_⟩ | refine LeO.cells ?_ | exact LeO.arr rfl | exact LeO.arr (by simp) | exact LeO.mE (by first | rfl | simp) (by first | exact Or.inl rfl | exact Or.inr rfl) | exact LeO.cE (by first | rfl | simp) | exact LeXs.cE (by first | rfl | simp) | refine LeO.map (by first | rfl | simp) ?_ (by first | exact Or.inl rfl | exact Or.inr rfl) | exact LeO.iter (by first | rfl | simp) (Nat.le_of_ble_eq_true rfl) | refine LeXs.cons ?_ ?_ | exact LeXs.nil | refine And.intro ?_ ?_))
def rootS (n : Str) : Bool := n == [81, 117, 101, 114, 121] || n == [77, 117, 116, 97, 116, 105, 111, 110] || n == [83, 117, 98, 115, 99, 114, 105, 112, 116, 105, 111, 110]
def badKind (d : Def) : Bool := (rootS d.name && d.kind != 1) || decide (d.kind < 1) || decide (d.kind > 5)
def twiceF (ds : List Def) (i : Nat) (n : Str) : Bool := scalF n || (ds.take i).any fun o => o.name == n
def wholeF (ds : List Def) (i : Nat) (d : Def) : List Fault :=
  namesF d.name false (twiceF ds i d.name) d.name ++ (if emptyF d = true then [⟨8, d.name⟩] else []) ++ (if badKind d = true then [⟨9, d.name⟩] else []) ++ (if circB ds d = true then [⟨5, d.name⟩] else [])
theorem namesF_len (n : Str) (a b : Bool) (s : Str) : (namesF n a b s).length ≤ 2 := by
  unfold namesF; split <;> split <;> simp
theorem whole_ok (H : Pr P) (ds : List Def) (hD : DocOk ds) (hil : ∀ o, o ∈ ds → o.inputs.length ≤ 2199023255552) (i : Nat) (d : Def) (h : ds[i]? = some d) : FnOk P 76 [docV ds, .t (.int .i64 i)] ⟨[], 0⟩ { v := .t (.lst ((wholeF ds i d).map Fault.enc)) } := by
  have hdm := List.mem_of_getElem? h
  have hd := hD.d d hdm
  have hnm := hd.nm
  have hdl := hD.l
  have hi : i < ds.length := (List.getElem?_eq_some_iff.1 h).1
  have hnl := namesF_len d.name false (twiceF ds i d.name) d.name
  have e0 : twiceF ds i d.name = (scalF d.name || (ds.take i).any fun o => o.name == d.name) := rfl
  refine FnOk.run H.i76 H.mixed rfl rfl ?_
  refine fR rfl ?_
  refine Mid.elemMap rfl rfl rfl h rfl rfl ?_
  refine fM rfl ?_
  refine Mid.call (rScalar_ok H d.name) rfl rfl rfl rfl ?_
  refine fM rfl ?_
  refine rList (ds.take i) (fun j (B : Bool) => { env := [(1, .t (.int .i64 i)), (2, .ptr 0 0), (5, .ptr 1 0), (6, .t (.bool B)), (7, .t (.int .i64 j))], s := ⟨[(0, .cells [.t (.lst (ds.map Def.enc))]), (1, .cells [.t (.int .i64 d.kind), .t (.str d.name), .t (.lst (d.implements.map sE)), .t (.lst (d.dirs.map Dir.enc)), .t (.lst (d.fields.map Field.enc)), .t (.lst (d.members.map Member.enc)), .t (.lst (d.inputs.map Input.enc))])], 2⟩ }) (fun r j B => twiceF ds i d.name = (B || r.any fun o => o.name == d.name)) 2 (scalF d.name) rfl e0 rfl rfl rfl ?_ ?_
  · intro B hB
    have hl : (ds.take i).length = i := by simp; omega
    have hB' : twiceF ds i d.name = B := by rw [hB]; simp
    rw [hl]
    have t0 : ∀ L : List Fault, L.length ≤ 5 → L = wholeF ds i d → Run P n76 0 (EndOk ⟨[], 0⟩ { v := .t (.lst ((wholeF ds i d).map Fault.enc)) } r76 .ret) (advK 200 [It.c c76_0]) { env := [(8, .own 2 2 (L.map Fault.enc))], s := ⟨[(2, .arr L.length)], 3⟩ } := by
      rintro L hLl rfl
      refine fR rfl ?_
      refine Run.fin rfl (EndOk.go ?_); exact .own rfl
    have t3 : ∀ L : List Fault, L.length ≤ 4 → L ++ (if circB ds d = true then [⟨5, d.name⟩] else []) = wholeF ds i d → Run P n76 0 (EndOk ⟨[], 0⟩ { v := .t (.lst ((wholeF ds i d).map Fault.enc)) } r76 .ret) (advK 200 [It.c c76_3]) { env := [(2, .ptr 0 0), (5, .ptr 1 0), (8, .own 2 2 (L.map Fault.enc))], s := ⟨[(0, .cells [.t (.lst (ds.map Def.enc))]), (1, .cells [.t (.int .i64 d.kind), .t (.str d.name), .t (.lst (d.implements.map sE)), .t (.lst (d.dirs.map Dir.enc)), .t (.lst (d.fields.map Field.enc)), .t (.lst (d.members.map Member.enc)), .t (.lst (d.inputs.map Input.enc))]), (2, .arr L.length)], 3⟩ } := by
      rintro L hLl hL
      refine fR rfl ?_
      refine Mid.call (circular_ok H ds hD d hd (by intro o ho; rcases List.mem_cons.1 ho with rfl | ho; exact hil _ hdm; exact hil _ ho)) rfl rfl rfl rfl ?_
      refine fM rfl ?_
      refine Run.cond rfl rfl (fun hc => ?_) (fun hc => ?_)
      · refine fR rfl ?_
        refine apM Fault.enc L [(⟨5, d.name⟩ : Fault)] rfl rfl rfl rfl rfl ?_ (h1 := by simp; omega) (h2 := by simp; omega)
        refine Mid.fast (f := 1) rfl trivial ?_
        refine Mid.done0 rfl ?_
        exact rWeakC 3 rfl (t0 (L ++ [⟨5, d.name⟩]) (by simp; omega) (by rw [← hL, if_pos (show circB ds d = true from hc)] <;> simp)) rfl rfl rfl
      · exact rWeakC 3 rfl (t0 L (by omega) (by rw [← hL, if_neg (show ¬ circB ds d = true by rw [show circB ds d = false from hc]; simp)] <;> simp)) rfl rfl rfl
    have t7 : ∀ L : List Fault, L.length ≤ 3 → L ++ (if badKind d = true then [⟨9, d.name⟩] else []) ++ (if circB ds d = true then [⟨5, d.name⟩] else []) = wholeF ds i d → Run P n76 0 (EndOk ⟨[], 0⟩ { v := .t (.lst ((wholeF ds i d).map Fault.enc)) } r76 .ret) (advK 200 [It.c c76_7]) { env := [(2, .ptr 0 0), (5, .ptr 1 0), (8, .own 2 2 (L.map Fault.enc))], s := ⟨[(0, .cells [.t (.lst (ds.map Def.enc))]), (1, .cells [.t (.int .i64 d.kind), .t (.str d.name), .t (.lst (d.implements.map sE)), .t (.lst (d.dirs.map Dir.enc)), .t (.lst (d.fields.map Field.enc)), .t (.lst (d.members.map Member.enc)), .t (.lst (d.inputs.map Input.enc))]), (2, .arr L.length)], 3⟩ } := by
      rintro L hLl hL
      refine fR rfl ?_
      refine Run.cond rfl rfl (fun hb => ?_) (fun hb => ?_)
      · refine fR rfl ?_
        refine apM Fault.enc L [(⟨9, d.name⟩ : Fault)] rfl rfl rfl rfl rfl ?_ (h1 := by simp; omega) (h2 := by simp; omega)
        refine Mid.fast (f := 1) rfl trivial ?_
        refine Mid.done0 rfl ?_
        exact rWeakC 3 rfl (t3 (L ++ [⟨9, d.name⟩]) (by simp; omega) (by rw [← hL, if_pos (show badKind d = true from hb)] <;> simp)) rfl rfl rfl
      · exact rWeakC 3 rfl (t3 L (by omega) (by rw [← hL, if_neg (show ¬ badKind d = true by rw [show badKind d = false from hb]; simp)] <;> simp)) rfl rfl rfl
    refine fR rfl ?_
    refine Run.condF rfl rfl (by simp) ?_
    refine fR rfl ?_
    rw [hB'] at hnl
    refine Mid.callO [] (namesO_ok H d.name hnm false B d.name) rfl rfl rfl rfl (by simp [stoBd]) (by repeat' (first | exact trivial | exact rfl | refine And.intro ?_ ?_ | exact (congrArg some (AObj.ren_mE _ _ _ _ _ _)).symm | exact (congrArg some (AObj.ren_cE _ _ _)).symm)) rfl rfl (ob' := [(2, .arr (namesF d.name false B d.name).length)]) (rfl) rfl rfl ?_
    refine fM rfl ?_
    refine Mid.call (empty_ok H d) rfl rfl rfl rfl ?_
    refine fM rfl ?_
    have hL : namesF d.name false B d.name ++ (if emptyF d = true then [⟨8, d.name⟩] else []) ++ (if badKind d = true then [⟨9, d.name⟩] else []) ++ (if circB ds d = true then [⟨5, d.name⟩] else []) = wholeF ds i d := by unfold wholeF; rw [hB']
    generalize namesF d.name false B d.name = L at hL hnl
    refine Run.cond rfl rfl (fun he => ?_) (fun he => ?_)
    · refine fR rfl ?_
      refine apM Fault.enc L [(⟨8, d.name⟩ : Fault)] rfl rfl rfl rfl rfl ?_ (h1 := by simp; omega) (h2 := by simp; omega)
      refine Mid.fast (f := 1) rfl trivial ?_
      refine Mid.done0 rfl ?_
      exact rWeakC 3 rfl (t7 (L ++ [⟨8, d.name⟩]) (by simp; omega) (by rw [← hL, if_pos (show emptyF d = true from he)] <;> simp)) rfl rfl rfl
    · exact rWeakC 3 rfl (t7 L (by omega) (by rw [← hL, if_neg (show ¬ emptyF d = true by rw [show emptyF d = false from he]; simp)] <;> simp)) rfl rfl rfl
  · intro j o r B h1 hj hjd hB ih
    have hji : j < i := by simp at hj; omega
    have ho : ds[j]? = some o := by rw [List.getElem?_take] at h1; rw [if_pos hji] at h1; exact h1
    have hjl : j < ds.length := by omega
    refine fR rfl ?_
    refine Run.condT rfl rfl (by simp; omega) ?_
    refine fR rfl ?_
    refine elG rfl rfl rfl rfl ho rfl rfl ?_
    refine fM rfl ?_
    refine aL rfl rfl rfl rfl rfl ?_
    refine fM rfl ?_
    exact rWeak 2 rfl (ih (B || o.name == d.name) (by rw [hB]; simp only [List.any_cons]; cases B <;> simp)) rfl rfl rfl
end Go.GB.C11


/-
  D11V: contracts of chapter 11's functions: the lists of the schema's check.
-/
namespace Go.GB.C11
open Go.GB
set_option linter.unusedSimpArgs false
set_option linter.unusedVariables false
set_option maxRecDepth 100000
set_option maxHeartbeats 2000000
variable {P : Program}

def inOne (ds : List Def) (p : List Input) (x : Input) (at_ : Str) : List Fault :=
  namesF x.name false (findInput x.name p).isSome at_ ++ (if knownF ds x.ty.name = false then [⟨8, at_⟩] else if isInF ds x.ty.name = false then [⟨10, at_⟩] else [])
def inF (ds : List Def) (pre post : Str) : List Input → List Input → List Fault
  | _, [] => []
  | p, x :: r => inOne ds p x (pre ++ x.name ++ post) ++ inF ds pre post (p ++ [x]) r
theorem inputs_ok (H : Pr P) (ds : List Def) (hD : DocOk ds) (l : List Input) (hl : l.length ≤ 140737488355328) (hlo : ∀ y, y ∈ l → y.Ok) (pre post : Str) (hp : pre.length ≤ 1125899906842624) (hq : post.length ≤ 1125899906842624) (ht : (inF ds pre post [] l).length ≤ 4398046511104) :
    FnOk P 79 [docV ds, .t (.lst (l.map Input.enc)), .t (.str pre), .t (.str post)] ⟨[], 0⟩ { v := .t (.lst ((inF ds pre post [] l).map Fault.enc)) } := by
  generalize hT : inF ds pre post [] l = tot at ht
  refine FnOk.run H.i79 H.mixed rfl rfl ?_
  refine fR rfl ?_
  refine rList l (fun i (B : List Fault) => { env := [(1, .t (.lst (l.map Input.enc))), (2, .t (.str pre)), (3, .t (.str post)), (4, .ptr 0 0), (9, .own 1 2 (B.map Fault.enc)), (10, .t (.int .i64 i))], s := ⟨[(0, .cells [.t (.lst (ds.map Def.enc))]), (1, .arr B.length)], 2⟩ }) (fun r i B => B ++ inF ds pre post (l.take i) r = tot) 1 [] rfl (by simpa using hT) rfl rfl rfl ?_ ?_
  · rintro B hB
    obtain rfl : B = tot := by rw [← hB]; simp [inF]
    refine fR rfl ?_
    refine lM rfl rfl rfl ?_
    refine fM rfl ?_
    refine Run.condF rfl rfl (by simp) ?_
    refine fR rfl ?_
    refine Run.fin rfl (EndOk.go ?_); exact .own rfl
  · rintro i x r B h1 hi hd hB ih
    have hx := hlo x (List.mem_of_getElem? h1)
    have hxn := hx.nm
    have htk : l.take i ++ [x] = l.take (i + 1) := by rw [List.take_add_one, h1]; rfl
    have htkl : (l.take i).length ≤ 140737488355328 := by simp; omega
    simp only [inF, inOne, htk] at hB
    generalize hAt : pre ++ x.name ++ post = at_ at hB
    have hatl : at_.length ≤ 4503599627370496 := by rw [← hAt]; simp; omega
    have hlen := congrArg List.length hB
    simp only [List.length_append] at hlen
    refine fR rfl ?_
    refine lM rfl rfl rfl ?_
    refine fM rfl ?_
    refine Run.condT rfl rfl (by simp; omega) ?_
    refine fR rfl ?_
    refine Mid.elemMap rfl rfl rfl h1 rfl rfl ?_
    refine fM rfl ?_
    refine pu rfl ?_
    refine fM rfl ?_
    refine pu rfl ?_
    refine fM rfl ?_
    refine lTo rfl rfl rfl rfl ?_
    refine fM rfl ?_
    rw [hAt]
    refine Mid.elemMap rfl rfl rfl h1 rfl rfl ?_
    refine fM rfl ?_
    refine Mid.call (rInputOf_ok H (l.take i) htkl x.name) rfl rfl rfl rfl ?_
    refine fM rfl ?_
    refine Mid.elemMap rfl rfl rfl h1 rfl rfl ?_
    refine fM rfl ?_
    refine Mid.call (names_ok H x.name hxn false (findInput x.name (l.take i)).isSome at_) rfl rfl rfl rfl ?_
    skip
    generalize namesF x.name false (findInput x.name (l.take i)).isSome at_ = N at hB hlen
    refine apM Fault.enc B N rfl rfl rfl rfl rfl ?_ (h1 := by first | omega | (simp; omega) | (simp; done)) (h2 := by first | omega | (simp; omega) | (simp; done))
    refine fM rfl ?_
    refine Mid.elemMap rfl rfl rfl h1 rfl rfl ?_
    refine fM rfl ?_
    refine Mid.call (known_ok H ds hD x.ty.name) rfl rfl rfl rfl ?_
    refine fM rfl ?_
    refine Run.cond rfl rfl (fun hk => ?_) (fun hk => ?_)
    · have hk' : knownF ds x.ty.name = false := by simpa using hk
      rw [if_pos hk'] at hB hlen
      simp only [List.length_cons, List.length_nil] at hlen
      refine fR rfl ?_
      refine apM Fault.enc (B ++ N) [(⟨8, at_⟩ : Fault)] rfl rfl rfl rfl rfl ?_ (h1 := by first | omega | (simp; omega) | (simp; done)) (h2 := by first | omega | (simp; omega) | (simp; done))
      refine fM rfl ?_
      refine aL rfl rfl rfl rfl rfl ?_
      refine fM rfl ?_
      exact rWeak 2 rfl (ih (B ++ N ++ [⟨8, at_⟩]) (by rw [← hB]; simp)) rfl rfl rfl
    · have hk' : ¬ knownF ds x.ty.name = false := by simpa using hk
      rw [if_neg hk'] at hB hlen
      refine fR rfl ?_
      refine Mid.elemMap rfl rfl rfl h1 rfl rfl ?_
      refine fM rfl ?_
      refine Mid.call (isInput_ok H ds hD x.ty.name) rfl rfl rfl rfl ?_
      refine fM rfl ?_
      refine Run.cond rfl rfl (fun hy => ?_) (fun hy => ?_)
      · have hy' : isInF ds x.ty.name = false := by simpa using hy
        rw [if_pos hy'] at hB hlen
        simp only [List.length_cons, List.length_nil] at hlen
        refine fR rfl ?_
        refine apM Fault.enc (B ++ N) [(⟨10, at_⟩ : Fault)] rfl rfl rfl rfl rfl ?_ (h1 := by first | omega | (simp; omega) | (simp; done)) (h2 := by first | omega | (simp; omega) | (simp; done))
        refine fM rfl ?_
        refine aL rfl rfl rfl rfl rfl ?_
        refine fM rfl ?_
        exact rWeak 2 rfl (ih (B ++ N ++ [⟨10, at_⟩]) (by rw [← hB]; simp)) rfl rfl rfl
      · have hy' : ¬ isInF ds x.ty.name = false := by simpa using hy
        rw [if_neg hy'] at hB hlen
        refine fR rfl ?_
        refine aL rfl rfl rfl rfl rfl ?_
        refine fM rfl ?_
        exact rWeak 2 rfl (ih (B ++ N) (by rw [← hB]; simp)) rfl rfl rfl

def fldB (ds : List Def) (n : Str) : Bool := !scalF n && (findDef n ds).isSome && ((findDef n ds).getD Def.zero).kind == 5
def fldOne (ds : List Def) (p : List Field) (x : Field) (at_ : Str) : List Fault :=
  namesF x.name false (findField x.name p).isSome at_ ++ (if knownF ds x.ty.name = false then [⟨8, at_⟩] else if fldB ds x.ty.name = true then [⟨10, at_⟩] else []) ++ inF ds (at_ ++ [40]) [41] [] x.args
def fldL (ds : List Def) (n : Str) : List Field → List Field → List Fault
  | _, [] => []
  | p, x :: r => fldOne ds p x (n ++ [46] ++ x.name) ++ fldL ds n (p ++ [x]) r
theorem fields_ok (H : Pr P) (ds : List Def) (hD : DocOk ds) (d : Def) (hd : d.Ok) (ht : (fldL ds d.name [] d.fields).length ≤ 4398046511104) : FnOk P 77 [docV ds, d.v] ⟨[], 0⟩ { v := .t (.lst ((fldL ds d.name [] d.fields).map Fault.enc)) } := by
  have hfl := hd.fl
  have hnm := hd.nm
  generalize hT : fldL ds d.name [] d.fields = tot at ht
  refine FnOk.run H.i77 H.mixed rfl rfl ?_
  refine fR rfl ?_
  refine rList d.fields (fun i (B : List Fault) => { env := [(2, .ptr 0 0), (3, .ptr 1 0), (5, .own 2 2 (B.map Fault.enc)), (6, .t (.int .i64 i))], s := ⟨[(0, .cells [.t (.lst (ds.map Def.enc))]), (1, .cells [.t (.int .i64 d.kind), .t (.str d.name), .t (.lst (d.implements.map sE)), .t (.lst (d.dirs.map Dir.enc)), .t (.lst (d.fields.map Field.enc)), .t (.lst (d.members.map Member.enc)), .t (.lst (d.inputs.map Input.enc))]), (2, .arr B.length)], 3⟩ }) (fun r i B => B ++ fldL ds d.name (d.fields.take i) r = tot) 2 [] rfl (by simpa using hT) rfl rfl rfl ?_ ?_
  · rintro B hB
    obtain rfl : B = tot := by rw [← hB]; simp [fldL]
    refine fR rfl ?_
    refine lM rfl rfl rfl ?_
    refine fM rfl ?_
    refine Run.condF rfl rfl (by simp) ?_
    refine fR rfl ?_
    refine Run.fin rfl (EndOk.go ?_); exact .own rfl
  · rintro i x r B h1 hi hdr hB ih
    have hx := hd.f x (List.mem_of_getElem? h1)
    have hxn := hx.nm
    have hxl := hx.al
    have htk : d.fields.take i ++ [x] = d.fields.take (i + 1) := by rw [List.take_add_one, h1]; rfl
    have htkl : (d.fields.take i).length ≤ 140737488355328 := by simp; omega
    simp only [fldL, fldOne, htk] at hB
    generalize hAt : d.name ++ [46] ++ x.name = at_ at hB
    have hatl : at_.length ≤ 1125899906842000 := by rw [← hAt]; simp; omega
    have hlen := congrArg List.length hB
    simp only [List.length_append] at hlen
    refine fR rfl ?_
    refine lM rfl rfl rfl ?_
    refine fM rfl ?_
    refine Run.condT rfl rfl (by simp; omega) ?_
    refine fR rfl ?_
    refine Mid.elemMap rfl rfl rfl h1 rfl rfl ?_
    refine fM rfl ?_
    refine pu rfl ?_
    refine fM rfl ?_
    refine pu rfl ?_
    refine fM rfl ?_
    refine lTo rfl rfl rfl rfl ?_
    refine fM rfl ?_
    rw [hAt]
    refine Mid.call (rFieldOf_ok H ⟨0, [], [], [], d.fields.take i, [], []⟩ htkl x.name) rfl rfl rfl rfl ?_
    refine fM rfl ?_
    refine Mid.call (names_ok H x.name hxn false (findField x.name (d.fields.take i)).isSome at_) rfl rfl rfl rfl ?_
    skip
    generalize namesF x.name false (findField x.name (d.fields.take i)).isSome at_ = N at hB hlen
    refine apM Fault.enc B N rfl rfl rfl rfl rfl ?_ (h1 := by first | omega | (simp; omega) | (simp; done)) (h2 := by first | omega | (simp; omega) | (simp; done))
    refine fM rfl ?_
    refine Mid.call (rFind_ok H ds hD.l x.ty.name) rfl rfl rfl rfl ?_
    refine fM rfl ?_
    refine Mid.call (known_ok H ds hD x.ty.name) rfl rfl rfl rfl ?_
    refine fM rfl ?_
    refine Run.cond rfl rfl (fun hk => ?_) (fun hk => ?_)
    · have hk' : knownF ds x.ty.name = false := by simpa using hk
      rw [if_pos hk'] at hB hlen
      simp only [List.length_cons, List.length_nil] at hlen
      refine fR rfl ?_
      refine apM Fault.enc (B ++ N) [(⟨8, at_⟩ : Fault)] rfl rfl rfl rfl rfl ?_ (h1 := by first | omega | (simp; omega) | (simp; done)) (h2 := by first | omega | (simp; omega) | (simp; done))
      refine fM rfl ?_
      refine pu rfl ?_
      refine Mid.call (inputs_ok H ds hD x.args hxl hx.a (at_ ++ [40]) [41] (by simp; omega) (by decide) (by omega)) rfl rfl rfl rfl ?_
      skip
      generalize inF ds (at_ ++ [40]) [41] [] x.args = M at hB hlen
      refine apM Fault.enc (B ++ N ++ [⟨8, at_⟩]) M rfl rfl rfl rfl rfl ?_ (h1 := by first | omega | (simp; omega) | (simp; done)) (h2 := by first | omega | (simp; omega) | (simp; done))
      refine fM rfl ?_
      refine aL rfl rfl rfl rfl rfl ?_
      refine fM rfl ?_
      exact rWeak 3 rfl (ih (B ++ N ++ [⟨8, at_⟩] ++ M) (by rw [← hB]; simp)) rfl rfl rfl
    · have hk' : ¬ knownF ds x.ty.name = false := by simpa using hk
      rw [if_neg hk'] at hB hlen
      refine fR rfl ?_
      refine Mid.call (rScalar_ok H x.ty.name) rfl rfl rfl rfl ?_
      refine fM rfl ?_
      refine Run.cond rfl rfl (fun hy => ?_) (fun hy => ?_)
      · have hy' : fldB ds x.ty.name = true := hy
        rw [if_pos hy'] at hB hlen
        simp only [List.length_cons, List.length_nil] at hlen
        refine fR rfl ?_
        refine apM Fault.enc (B ++ N) [(⟨10, at_⟩ : Fault)] rfl rfl rfl rfl rfl ?_ (h1 := by first | omega | (simp; omega) | (simp; done)) (h2 := by first | omega | (simp; omega) | (simp; done))
        refine fM rfl ?_
        refine pu rfl ?_
        refine Mid.call (inputs_ok H ds hD x.args hxl hx.a (at_ ++ [40]) [41] (by simp; omega) (by decide) (by omega)) rfl rfl rfl rfl ?_
        skip
        generalize inF ds (at_ ++ [40]) [41] [] x.args = M at hB hlen
        refine apM Fault.enc (B ++ N ++ [⟨10, at_⟩]) M rfl rfl rfl rfl rfl ?_ (h1 := by first | omega | (simp; omega) | (simp; done)) (h2 := by first | omega | (simp; omega) | (simp; done))
        refine fM rfl ?_
        refine aL rfl rfl rfl rfl rfl ?_
        refine fM rfl ?_
        exact rWeak 3 rfl (ih (B ++ N ++ [⟨10, at_⟩] ++ M) (by rw [← hB]; simp)) rfl rfl rfl
      · have hy' : ¬ fldB ds x.ty.name = true := by rw [show fldB ds x.ty.name = false from hy]; simp
        rw [if_neg hy'] at hB hlen
        simp only [List.length_nil] at hlen
        refine fR rfl ?_
        refine pu rfl ?_
        refine Mid.call (inputs_ok H ds hD x.args hxl hx.a (at_ ++ [40]) [41] (by simp; omega) (by decide) (by omega)) rfl rfl rfl rfl ?_
        skip
        generalize inF ds (at_ ++ [40]) [41] [] x.args = M at hB hlen
        refine apM Fault.enc (B ++ N) M rfl rfl rfl rfl rfl ?_ (h1 := by first | omega | (simp; omega) | (simp; done)) (h2 := by first | omega | (simp; omega) | (simp; done))
        refine fM rfl ?_
        refine aL rfl rfl rfl rfl rfl ?_
        refine fM rfl ?_
        exact rWeak 3 rfl (ih (B ++ N ++ M) (by rw [← hB]; simp)) rfl rfl rfl

def memBad (n : Str) : Bool := n == [116, 114, 117, 101] || n == [102, 97, 108, 115, 101] || n == [110, 117, 108, 108]
def memL (t : Str) : List Member → List Member → List Fault
  | _, [] => []
  | p, x :: r => namesF x.name (memBad x.name) (memF p x.name) (t ++ [46] ++ x.name) ++ memL t (p ++ [x]) r
theorem members_ok (H : Pr P) (d : Def) (hd : d.Ok) (ht : (memL d.name [] d.members).length ≤ 4398046511104) : FnOk P 78 [d.v] ⟨[], 0⟩ { v := .t (.lst ((memL d.name [] d.members).map Fault.enc)) } := by
  have hfl := hd.ml
  have hnm := hd.nm
  generalize hT : memL d.name [] d.members = tot at ht
  refine FnOk.run H.i78 H.mixed rfl rfl ?_
  refine fR rfl ?_
  refine rList d.members (fun i (B : List Fault) => { env := [(1, .ptr 0 0), (3, .own 1 2 (B.map Fault.enc)), (4, .t (.int .i64 i))], s := ⟨[(0, .cells [.t (.int .i64 d.kind), .t (.str d.name), .t (.lst (d.implements.map sE)), .t (.lst (d.dirs.map Dir.enc)), .t (.lst (d.fields.map Field.enc)), .t (.lst (d.members.map Member.enc)), .t (.lst (d.inputs.map Input.enc))]), (1, .arr B.length)], 2⟩ }) (fun r i B => B ++ memL d.name (d.members.take i) r = tot) 1 [] rfl (by simpa using hT) rfl rfl rfl ?_ ?_
  · rintro B hB
    obtain rfl : B = tot := by rw [← hB]; simp [memL]
    refine fR rfl ?_
    refine lM rfl rfl rfl ?_
    refine fM rfl ?_
    refine Run.condF rfl rfl (by simp) ?_
    refine fR rfl ?_
    refine Run.fin rfl (EndOk.go ?_); exact .own rfl
  · rintro i x r B h1 hi hdr hB ih
    have hx := hd.m x (List.mem_of_getElem? h1)
    have hxn := hx.nm
    have htk : d.members.take i ++ [x] = d.members.take (i + 1) := by rw [List.take_add_one, h1]; rfl
    have htkl : (d.members.take i).length ≤ 140737488355328 := by simp; omega
    simp only [memL, htk] at hB
    generalize hAt : d.name ++ [46] ++ x.name = at_ at hB
    have hatl : at_.length ≤ 1125899906842000 := by rw [← hAt]; simp; omega
    have hlen := congrArg List.length hB
    simp only [List.length_append] at hlen
    refine fR rfl ?_
    refine lM rfl rfl rfl ?_
    refine fM rfl ?_
    refine Run.condT rfl rfl (by simp; omega) ?_
    refine fR rfl ?_
    refine Mid.elemMap rfl rfl rfl h1 rfl rfl ?_
    refine fM rfl ?_
    refine rList (d.members.take i) (fun j (C : Bool) => { env := [(1, .ptr 0 0), (3, .own 1 2 (B.map Fault.enc)), (4, .t (.int .i64 i)), (5, .t (.str x.name)), (6, .t (.bool C)), (7, .t (.int .i64 j))], s := ⟨[(0, .cells [.t (.int .i64 d.kind), .t (.str d.name), .t (.lst (d.implements.map sE)), .t (.lst (d.dirs.map Dir.enc)), .t (.lst (d.fields.map Field.enc)), .t (.lst (d.members.map Member.enc)), .t (.lst (d.inputs.map Input.enc))]), (1, .arr B.length)], 2⟩ }) (fun r j C => memF (d.members.take i) x.name = (C || memF r x.name)) 2 false rfl (by simp) rfl rfl rfl ?_ ?_
    · intro C hC
      have hl : (d.members.take i).length = i := by simp; omega
      have hC' : memF (d.members.take i) x.name = C := by rw [hC]; simp [memF]
      rw [hl]
      rw [hC'] at hB hlen
      refine fR rfl ?_
      refine Run.condF rfl rfl (by simp) ?_
      refine fR rfl ?_
      refine pu rfl ?_
      refine fM rfl ?_
      refine pu rfl ?_
      rw [hAt]
      refine Mid.call (names_ok H x.name hxn (memBad x.name) C at_) rfl rfl rfl rfl ?_
      skip
      generalize namesF x.name (memBad x.name) C at_ = N at hB hlen
      refine apM Fault.enc B N rfl rfl rfl rfl rfl ?_ (h1 := by first | omega | (simp; omega) | (simp; done)) (h2 := by first | omega | (simp; omega) | (simp; done))
      refine fM rfl ?_
      refine aL rfl rfl rfl rfl rfl ?_
      refine fM rfl ?_
      exact rWeak 2 rfl (ih (B ++ N) (by rw [← hB]; simp)) rfl rfl rfl
    · intro j o r2 C h2 hj hjd hC ih2
      have hji : j < i := by simp at hj; omega
      have ho : d.members[j]? = some o := by rw [List.getElem?_take] at h2; rw [if_pos hji] at h2; exact h2
      have hjl : j < d.members.length := by omega
      refine fR rfl ?_
      refine Run.condT rfl rfl (by simp; omega) ?_
      refine fR rfl ?_
      refine elG rfl rfl rfl rfl ho rfl rfl ?_
      refine fM rfl ?_
      refine aL rfl rfl rfl rfl rfl ?_
      refine fM rfl ?_
      exact rWeak 2 rfl (ih2 (C || o.name == x.name) (by rw [hC]; simp only [memF, List.any_cons]; cases C <;> simp)) rfl rfl rfl
end Go.GB.C11


/-
  D11W: contracts of chapter 11's functions: the schema's check.
-/
namespace Go.GB.C11
open Go.GB
set_option linter.unusedSimpArgs false
set_option linter.unusedVariables false
set_option maxRecDepth 100000
set_option maxHeartbeats 2000000
variable {P : Program}

def tQuery : Str := [81, 117, 101, 114, 121]
def chkK (ds : List Def) (d : Def) : List Fault :=
  if d.kind = 1 then fldL ds d.name [] d.fields else if d.kind = 2 then fldL ds d.name [] d.fields
  else if d.kind = 4 then memL d.name [] d.members else if d.kind = 5 then inF ds (d.name ++ [46]) [] [] d.inputs else []
def chkL (ds : List Def) : Nat → List Def → List Fault
  | _, [] => []
  | i, d :: r => wholeF ds i d ++ chkK ds d ++ chkL ds (i + 1) r
def chkQ (ds : List Def) (q : Bool) : List Fault := if (q && !(findDef tQuery ds).isSome) = true then [⟨30, tQuery⟩] else []
def checkF (ds : List Def) (q : Bool) : List Fault := chkL ds 0 ds ++ chkQ ds q
theorem check_ok (H : Pr P) (ds : List Def) (hD : DocOk ds) (hil : ∀ o, o ∈ ds → o.inputs.length ≤ 2199023255552) (q : Bool) (ht : (checkF ds q).length ≤ 4398046511104) : FnOk P 59 [docV ds, .t (.bool q)] ⟨[], 0⟩ { v := .t (.lst ((checkF ds q).map Fault.enc)) } := by
  have hdl := hD.l
  have hT : chkL ds 0 ds ++ chkQ ds q = checkF ds q := rfl
  generalize checkF ds q = tot at ht hT
  refine FnOk.run H.i59 H.mixed rfl rfl ?_
  refine fR rfl ?_
  refine rList ds (fun i (B : List Fault) => { env := [(1, .t (.bool q)), (2, .ptr 0 0), (5, .own 1 2 (B.map Fault.enc)), (6, .t (.int .i64 i))], s := ⟨[(0, .cells [.t (.lst (ds.map Def.enc))]), (1, .arr B.length)], 2⟩ }) (fun r i B => B ++ chkL ds i r ++ chkQ ds q = tot) 1 [] rfl (by simpa using hT) rfl rfl rfl ?_ ?_
  · rintro B hB
    simp only [chkL, List.append_nil] at hB
    have hlen := congrArg List.length hB
    simp only [List.length_append] at hlen
    refine fR rfl ?_
    refine lM rfl rfl rfl ?_
    refine fM rfl ?_
    refine Run.condF rfl rfl (by simp) ?_
    refine fR rfl ?_
    refine Mid.call (rFind_ok H ds hD.l tQuery) rfl rfl rfl rfl ?_
    refine fM rfl ?_
    refine Run.cond rfl rfl (fun hc => ?_) (fun hc => ?_)
    · have hc' : chkQ ds q = [⟨30, tQuery⟩] := by unfold chkQ; rw [if_pos (show (q && !(findDef tQuery ds).isSome) = true from hc)]
      rw [hc'] at hB hlen
      simp only [List.length_cons, List.length_nil] at hlen
      refine fR rfl ?_
      refine apM Fault.enc B [(⟨30, tQuery⟩ : Fault)] rfl rfl rfl rfl rfl ?_ (h1 := by first | omega | (simp; omega) | (simp; done)) (h2 := by first | omega | (simp; omega) | (simp; done))
      refine fM rfl ?_
      refine Run.fin rfl (EndOk.go ?_); exact .own (by rw [hB])
    · have hc' : chkQ ds q = [] := by unfold chkQ; rw [if_neg (by rw [show (q && !(findDef tQuery ds).isSome) = false from hc]; simp)]
      rw [hc'] at hB
      refine fR rfl ?_
      refine Run.fin rfl (EndOk.go ?_); exact .own (by rw [← hB]; simp)
  · rintro i d r B h1 hi hdr hB ih
    have hd := hD.d d (List.mem_of_getElem? h1)
    have hnm := hd.nm
    have hnl := hd.nl
    simp only [chkL] at hB
    have hlen := congrArg List.length hB
    simp only [List.length_append] at hlen
    refine fR rfl ?_
    refine lM rfl rfl rfl ?_
    refine fM rfl ?_
    refine Run.condT rfl rfl (by simp; omega) ?_
    refine fR rfl ?_
    refine Mid.elemMap rfl rfl rfl h1 rfl rfl ?_
    refine fM rfl ?_
    refine Mid.call (whole_ok H ds hD hil i d h1) rfl rfl rfl rfl ?_
    skip
    generalize wholeF ds i d = W at hB hlen
    refine apM Fault.enc B W rfl rfl rfl rfl rfl ?_ (h1 := by first | omega | (simp; omega) | (simp; done)) (h2 := by first | omega | (simp; omega) | (simp; done))
    refine fM rfl ?_
    unfold chkK at hB hlen
    refine Run.cond rfl rfl (fun k1 => ?_) (fun k1 => ?_)
    · have k1' : d.kind = 1 := by simpa using k1
      rw [if_pos k1'] at hB hlen
      skip
      refine Run.condT rfl rfl k1 ?_
      refine fR rfl ?_
      refine Mid.call (fields_ok H ds hD d hd (by omega)) rfl rfl rfl rfl ?_
      skip
      generalize fldL ds d.name [] d.fields = M at hB hlen
      refine apM Fault.enc (B ++ W) M rfl rfl rfl rfl rfl ?_ (h1 := by first | omega | (simp; omega) | (simp; done)) (h2 := by first | omega | (simp; omega) | (simp; done))
      refine fM rfl ?_
      refine aL rfl rfl rfl rfl rfl ?_
      refine fM rfl ?_
      exact rWeak 2 rfl (ih (B ++ W ++ M) (by rw [← hB]; simp)) rfl rfl rfl
    · have k1' : ¬ d.kind = 1 := by simpa using k1
      rw [if_neg k1'] at hB hlen
      refine fR rfl ?_
      refine Run.cond rfl rfl (fun k2 => ?_) (fun k2 => ?_)
      · have k2' : d.kind = 2 := by simpa using k2
        rw [if_pos k2'] at hB hlen
        refine fR rfl ?_
        refine Mid.call (fields_ok H ds hD d hd (by omega)) rfl rfl rfl rfl ?_
        skip
        generalize fldL ds d.name [] d.fields = M at hB hlen
        refine apM Fault.enc (B ++ W) M rfl rfl rfl rfl rfl ?_ (h1 := by first | omega | (simp; omega) | (simp; done)) (h2 := by first | omega | (simp; omega) | (simp; done))
        refine fM rfl ?_
        refine aL rfl rfl rfl rfl rfl ?_
        refine fM rfl ?_
        exact rWeak 2 rfl (ih (B ++ W ++ M) (by rw [← hB]; simp)) rfl rfl rfl
      · have k2' : ¬ d.kind = 2 := by simpa using k2
        rw [if_neg k2'] at hB hlen
        refine fR rfl ?_
        refine Run.cond rfl rfl (fun k4 => ?_) (fun k4 => ?_)
        · have k4' : d.kind = 4 := by simpa using k4
          rw [if_pos k4'] at hB hlen
          refine fR rfl ?_
          refine Mid.call (members_ok H d hd (by omega)) rfl rfl rfl rfl ?_
          skip
          generalize memL d.name [] d.members = M at hB hlen
          refine apM Fault.enc (B ++ W) M rfl rfl rfl rfl rfl ?_ (h1 := by first | omega | (simp; omega) | (simp; done)) (h2 := by first | omega | (simp; omega) | (simp; done))
          refine fM rfl ?_
          refine aL rfl rfl rfl rfl rfl ?_
          refine fM rfl ?_
          exact rWeak 2 rfl (ih (B ++ W ++ M) (by rw [← hB]; simp)) rfl rfl rfl
        · have k4' : ¬ d.kind = 4 := by simpa using k4
          rw [if_neg k4'] at hB hlen
          refine fR rfl ?_
          refine Run.cond rfl rfl (fun k5 => ?_) (fun k5 => ?_)
          · have k5' : d.kind = 5 := by simpa using k5
            rw [if_pos k5'] at hB hlen
            refine fR rfl ?_
            refine pu rfl ?_
            refine Mid.call (inputs_ok H ds hD d.inputs hnl hd.n (d.name ++ [46]) [] (by simp; omega) (by decide) (by omega)) rfl rfl rfl rfl ?_
            skip
            generalize inF ds (d.name ++ [46]) [] [] d.inputs = M at hB hlen
            refine apM Fault.enc (B ++ W) M rfl rfl rfl rfl rfl ?_ (h1 := by first | omega | (simp; omega) | (simp; done)) (h2 := by first | omega | (simp; omega) | (simp; done))
            refine fM rfl ?_
            refine aL rfl rfl rfl rfl rfl ?_
            refine fM rfl ?_
            exact rWeak 2 rfl (ih (B ++ W ++ M) (by rw [← hB]; simp)) rfl rfl rfl
          · have k5' : ¬ d.kind = 5 := by simpa using k5
            rw [if_neg k5'] at hB hlen
            refine fR rfl ?_
            refine aL rfl rfl rfl rfl rfl ?_
            refine fM rfl ?_
            exact rWeak 2 rfl (ih (B ++ W) (by rw [← hB]; simp)) rfl rfl rfl
end Go.GB.C11


/-
  F25K: what no violations of a document mean: its types, and the fields of each, have different names.
-/
namespace Go.GB.C11
open Go.GB
set_option linter.unusedSimpArgs false
set_option linter.unusedVariables false
set_option maxRecDepth 100000
set_option maxHeartbeats 2000000

def wFd : List Field → Nat
  | [] => 0
  | f :: r => f.args.length + f.dirs.length + wFd r
def wD (d : Def) : Nat := 1 + d.fields.length + d.members.length + d.inputs.length + d.dirs.length + d.implements.length + wFd d.fields
def wDs : List Def → Nat
  | [] => 0
  | d :: r => wD d + wDs r
theorem bulkLL_len {α : Type} (f : α → List T) (hf : ∀ x, 1 ≤ bulkL (f x)) : ∀ l : List α, l.length ≤ bulkLL (l.map f)
  | [] => by simp
  | x :: r => by
    have := hf x; have := bulkLL_len f hf r
    simp only [List.map_cons, bulkLL, List.length_cons]; omega
theorem bulk_pos (x : T) : 1 ≤ x.bulk := by cases x <;> simp [T.bulk]
theorem bulkL_cons (x : T) (r : List T) : 1 ≤ bulkL (x :: r) := by have := bulk_pos x; simp only [bulkL]; omega
theorem wF_bulk : ∀ l : List Field, l.length + wFd l ≤ bulkLL (l.map Field.enc)
  | [] => by simp [wFd]
  | f :: r => by
    have := wF_bulk r
    have h1 := bulkLL_len Input.enc (fun x => bulkL_cons _ _) f.args
    have h2 := bulkLL_len Dir.enc (fun x => bulkL_cons _ _) f.dirs
    simp only [List.map_cons, bulkLL, List.length_cons, wFd, Field.enc, bulkL, T.bulk]; omega
theorem wD_bulk (d : Def) : wD d ≤ bulkL d.enc := by
  have h1 := wF_bulk d.fields
  have h2 := bulkLL_len Member.enc (fun x => bulkL_cons _ _) d.members
  have h3 := bulkLL_len Input.enc (fun x => bulkL_cons _ _) d.inputs
  have h4 := bulkLL_len Dir.enc (fun x => bulkL_cons _ _) d.dirs
  have h5 := bulkLL_len sE (fun x => bulkL_cons _ _) d.implements
  simp only [wD, Def.enc, bulkL, T.bulk]; omega
theorem wDs_bulk : ∀ ds : List Def, wDs ds ≤ bulkLL (ds.map Def.enc)
  | [] => by simp [wDs]
  | d :: r => by have := wD_bulk d; have := wDs_bulk r; simp only [wDs, List.map_cons, bulkLL]; omega
theorem inF_lenR (ds : List Def) (a b : Str) : ∀ (l p : List Input), (inF ds a b p l).length ≤ 3 * l.length
  | [], p => by simp [inF]
  | x :: r, p => by
    have h1 := inF_lenR ds a b r (p ++ [x])
    have h2 := namesF_len x.name false (findInput x.name p).isSome (a ++ x.name ++ b)
    simp only [inF, inOne, List.length_append, List.length_cons]
    split
    · simp only [List.length_cons, List.length_nil]; omega
    · split
      · simp only [List.length_cons, List.length_nil]; omega
      · simp only [List.length_nil]; omega
theorem fldL_lenR (ds : List Def) (n : Str) : ∀ (l p : List Field), (fldL ds n p l).length ≤ 3 * (l.length + wFd l)
  | [], p => by simp [fldL]
  | x :: r, p => by
    have h1 := fldL_lenR ds n r (p ++ [x])
    have h2 := namesF_len x.name false (findField x.name p).isSome (n ++ [46] ++ x.name)
    have h3 := inF_lenR ds (n ++ [46] ++ x.name ++ [40]) [41] x.args []
    simp only [fldL, fldOne, List.length_append, List.length_cons, wFd]
    split
    · simp only [List.length_cons, List.length_nil]; omega
    · split
      · simp only [List.length_cons, List.length_nil]; omega
      · simp only [List.length_nil]; omega
theorem memL_lenR (n : Str) : ∀ (l p : List Member), (memL n p l).length ≤ 2 * l.length
  | [], p => by simp [memL]
  | x :: r, p => by
    have h1 := memL_lenR n r (p ++ [x])
    have h2 := namesF_len x.name (memBad x.name) (memF p x.name) (n ++ [46] ++ x.name)
    simp only [memL, List.length_append, List.length_cons]; omega
theorem wholeF_lenR (ds : List Def) (i : Nat) (d : Def) : (wholeF ds i d).length ≤ 5 := by
  have := namesF_len d.name false (twiceF ds i d.name) d.name
  unfold wholeF
  simp only [List.length_append]
  split <;> split <;> split <;> simp <;> omega
theorem chkL_lenR (ds : List Def) : ∀ (l : List Def) (i : Nat), (chkL ds i l).length ≤ 5 * l.length + 3 * wDs l
  | [], i => by simp [chkL]
  | d :: r, i => by
    have h1 := chkL_lenR ds r (i + 1)
    have h2 := wholeF_lenR ds i d
    have h3 : (chkK ds d).length ≤ 3 * wD d := by
      have a1 := fldL_lenR ds d.name d.fields []
      have a2 := memL_lenR d.name d.members []
      have a3 := inF_lenR ds (d.name ++ [46]) [] d.inputs []
      unfold chkK wD
      split
      · omega
      · split
        · omega
        · split
          · omega
          · split
            · omega
            · simp
    simp only [chkL, List.length_append, List.length_cons, wDs]; omega
theorem check_lenR {ds : List Def} (hb : bulkLL (ds.map Def.enc) ≤ 1048576) (q : Bool) : (checkF ds q).length ≤ 4398046511104 := by
  have h1 := chkL_lenR ds ds 0
  have h2 := wDs_bulk ds
  have h3 := bulkLL_len Def.enc (fun x => bulkL_cons _ _) ds
  unfold checkF chkQ
  rw [List.length_append]
  split <;> simp <;> omega
/- fields -/
end Go.GB.C11


/-
  F23N: what the bulk of a document says of its directives.
-/
namespace Go.GB.C23
open Go.GB Go.GB.C11

theorem mem_bulk {α : Type} {f : α → List T} : ∀ {l : List α} {x : α}, x ∈ l → bulkL (f x) ≤ bulkLL (l.map f)
  | y :: r, x, h => by
    simp only [List.map_cons, bulkLL]
    rcases List.mem_cons.1 h with rfl | h
    · omega
    · have := mem_bulk (f := f) h; omega
theorem len_bulk {α : Type} {f : α → List T} (h : ∀ x, 1 ≤ bulkL (f x)) : ∀ l : List α, l.length ≤ bulkLL (l.map f)
  | [] => by simp
  | y :: r => by
    have := len_bulk h r
    have := h y
    simp only [List.map_cons, bulkLL, List.length_cons]; omega
theorem dir_b (d : Dir) : 1 ≤ bulkL d.enc := by simp only [Dir.enc, bulkL, T.bulk]; omega
theorem dirs_b (l : List Dir) : l.length ≤ bulkLL (l.map Dir.enc) := len_bulk dir_b l
theorem dok_of {d : Dir} (ho : d.Ok) (hb : bulkL d.enc ≤ 1048576) : DOk d := by
  refine ⟨ho.l, ho.nm, fun a ha => ?_⟩
  have h1 := mem_bulk (f := Arg.enc) ha
  simp only [Dir.enc, bulkL, T.bulk] at hb
  simp only [Arg.enc, bulkL, T.bulk] at h1
  exact ⟨by omega, ho.a a ha, by omega⟩
theorem dsok_of {l : List Dir} (ho : ∀ d, d ∈ l → d.Ok) (hb : bulkLL (l.map Dir.enc) ≤ 1048576) : DsOk l :=
  ⟨by have := dirs_b l; omega, fun d hd => dok_of (ho d hd) (by have := mem_bulk (f := Dir.enc) hd; omega)⟩
theorem inpD_of {a : Input} (ho : a.Ok) (hb : bulkL a.enc ≤ 1048576) : InpD a := by
  simp only [Input.enc, bulkL, T.bulk] at hb
  exact ⟨ho.nm, dsok_of ho.d (by omega)⟩
theorem fldD_of {a : Field} (ho : a.Ok) (hb : bulkL a.enc ≤ 1048576) : FldD a := by
  simp only [Field.enc, bulkL, T.bulk] at hb
  exact ⟨ho.nm, dsok_of ho.d (by omega), ho.al, fun x hx => inpD_of (ho.a x hx) (by have := mem_bulk (f := Input.enc) hx; omega)⟩
theorem memD_of {a : Member} (ho : a.Ok) (hb : bulkL a.enc ≤ 1048576) : MemD a := by
  simp only [Member.enc, bulkL, T.bulk] at hb
  exact ⟨ho.nm, dsok_of ho.d (by omega)⟩
theorem inp_b (d : Input) : 1 ≤ bulkL d.enc := by simp only [Input.enc, bulkL, T.bulk]; omega
theorem fld_b (d : Field) : 1 ≤ bulkL d.enc := by simp only [Field.enc, bulkL, T.bulk]; omega
theorem mem_b (d : Member) : 1 ≤ bulkL d.enc := by simp only [Member.enc, bulkL, T.bulk]; omega
theorem def_b (d : Def) : 1 ≤ bulkL d.enc := by simp only [Def.enc, bulkL, T.bulk]; omega
theorem defD_of {a : Def} (ho : a.Ok) (hb : bulkL a.enc ≤ 1048576) : DefD a := by
  simp only [Def.enc, bulkL, T.bulk] at hb
  have h1 := len_bulk fld_b a.fields
  have h2 := len_bulk mem_b a.members
  have h3 := len_bulk inp_b a.inputs
  exact ⟨by omega, dsok_of ho.d (by omega), by omega, fun x hx => fldD_of (ho.f x hx) (by have := mem_bulk (f := Field.enc) hx; omega), by omega, fun x hx => memD_of (ho.m x hx) (by have := mem_bulk (f := Member.enc) hx; omega), by omega, fun x hx => inpD_of (ho.n x hx) (by have := mem_bulk (f := Input.enc) hx; omega)⟩
theorem docD_of {ds : List Def} (ho : DocOk ds) (hb : bulkLL (ds.map Def.enc) ≤ 1048576) : ∀ t, t ∈ ds → DefD t :=
  fun t ht => defD_of (ho.d t ht) (by have := mem_bulk (f := Def.enc) ht; omega)
theorem docL_of {ds : List Def} (hb : bulkLL (ds.map Def.enc) ≤ 1048576) : ds.length ≤ 1048576 := by
  have := len_bulk def_b ds; omega
theorem argL_len (s : Str) : ∀ l : List Input, (argL s l).length ≤ bulkLL (l.map Input.enc)
  | [] => by simp [argL]
  | a :: r => by
    have h1 := argL_len s r
    have h2 := usesF_len 0 (s ++ [40] ++ a.name ++ [41]) a.dirs []
    have h3 := dirs_b a.dirs
    simp only [argL, List.length_append, List.map_cons, bulkLL, Input.enc, bulkL, T.bulk] at h1 ⊢; omega
theorem fldL_len (s : Str) (pl : Int) : ∀ l : List Field, (fldL s pl l).length ≤ bulkLL (l.map Field.enc)
  | [] => by simp [fldL]
  | a :: r => by
    have h1 := fldL_len s pl r
    have h2 := usesF_len pl (s ++ [46] ++ a.name) a.dirs []
    have h3 := dirs_b a.dirs
    have h4 := argL_len (s ++ [46] ++ a.name) a.args
    simp only [fldL, List.length_append, List.map_cons, bulkLL, Field.enc, bulkL, T.bulk] at h1 ⊢; omega
theorem memL_len (s : Str) (pl : Int) : ∀ l : List Member, (memL s pl l).length ≤ bulkLL (l.map Member.enc)
  | [] => by simp [memL]
  | a :: r => by
    have h1 := memL_len s pl r
    have h2 := usesF_len pl (s ++ [46] ++ a.name) a.dirs []
    have h3 := dirs_b a.dirs
    simp only [memL, List.length_append, List.map_cons, bulkLL, Member.enc, bulkL, T.bulk] at h1 ⊢; omega
theorem inpL_len (s : Str) : ∀ l : List Input, (inpL s l).length ≤ bulkLL (l.map Input.enc)
  | [] => by simp [inpL]
  | a :: r => by
    have h1 := inpL_len s r
    have h2 := usesF_len 0 (s ++ [46] ++ a.name) a.dirs []
    have h3 := dirs_b a.dirs
    simp only [inpL, List.length_append, List.map_cons, bulkLL, Input.enc, bulkL, T.bulk] at h1 ⊢; omega
theorem partL_len (t : Def) : (partL t).length ≤ bulkLL (t.fields.map Field.enc) + bulkLL (t.members.map Member.enc) + bulkLL (t.inputs.map Input.enc) := by
  have h1 := fldL_len t.name 4 t.fields
  have h2 := fldL_len t.name 8 t.fields
  have h3 := memL_len t.name 0 t.members
  have h4 := memL_len t.name 16 t.members
  have h5 := inpL_len t.name t.inputs
  unfold partL
  split
  · omega
  · split
    · omega
    · split
      · omega
      · split
        · omega
        · split
          · omega
          · simp
theorem chkD_len : ∀ ds : List Def, (chkD ds).length ≤ bulkLL (ds.map Def.enc)
  | [] => by simp [chkD]
  | t :: r => by
    have h1 := chkD_len r
    have h2 := partL_len t
    have h3 := usesF_len (ownP t.kind) t.name t.dirs []
    have h4 := dirs_b t.dirs
    simp only [chkD, defL, List.length_append, List.map_cons, bulkLL, Def.enc, bulkL, T.bulk] at h1 ⊢; omega
end Go.GB.C23


/-
  F25L: moves: sizes of schemas; graphs as the laws want them.
-/
namespace Go.GB.C23
open Go.GB Go.GB.C11
set_option linter.unusedSimpArgs false
set_option linter.unusedVariables false
set_option maxRecDepth 100000
set_option maxHeartbeats 4000000
variable {P : Program}

/-- lengths of the parts of a definition -/
structure SzF (x : Field) : Prop where
  a : x.args.length ≤ 1048576
  d : x.dirs.length ≤ 1048576
structure SzD (t : Def) : Prop where
  i : t.implements.length ≤ 1048576
  d : t.dirs.length ≤ 1048576
  f : t.fields.length ≤ 1048576
  m : t.members.length ≤ 1048576
  n : t.inputs.length ≤ 1048576
  x : ∀ x, x ∈ t.fields → SzF x
def szF : List Field → Nat → Nat
  | [], n => n
  | x :: r, n => if n ≤ 400 then szF r (n + x.args.length + x.dirs.length) else n
def szD : List Def → Nat → Nat
  | [], n => n
  | t :: r, n => if n ≤ 400 then szD r (szF t.fields (n + t.implements.length + t.dirs.length + t.fields.length + t.members.length + t.inputs.length)) else n
theorem size_ok (H : Pr25 P) (ds : List Def) (hl : ds.length ≤ 1048576) (hs : ∀ t, t ∈ ds → SzD t) : FnOk P 58 [docV ds, .t (.int .i64 400)] ⟨[], 0⟩ { v := .t (.int .i64 ((szD ds ds.length : Nat) : Int)) } := by
  refine FnOk.run H.i58 H.mixed rfl rfl ?_
  refine fR rfl ?_
  refine lM rfl rfl rfl ?_
  refine fM rfl ?_
  refine rList ds (fun i (n : Nat) => { env := [(1, .t (.int .i64 400)), (2, .ptr 0 0), (5, .t (.int .i64 n)), (6, .t (.int .i64 i))], s := ⟨[(0, .cells [.t (.lst (ds.map Def.enc))])], 1⟩ }) (fun r i n => szD ds ds.length = szD r n ∧ n ≤ 10000000) 1 ds.length rfl ⟨rfl, by omega⟩ rfl rfl rfl ?_ ?_
  · rintro n ⟨hn, _⟩
    have hn' : szD ds ds.length = n := hn
    refine fR rfl ?_
    refine lM rfl rfl rfl ?_
    refine fM rfl ?_
    refine Run.condF rfl rfl (by simp) ?_
    refine fR rfl ?_
    refine Run.fin rfl (EndOk.go ?_); exact .t (by rw [hn'])
  · rintro i t r n h1 hi hd ⟨hn, hn2⟩ ih
    have ht := hs t (List.mem_of_getElem? h1)
    have t1 := ht.i
    have t2 := ht.d
    have t3 := ht.f
    have t4 := ht.m
    have t5 := ht.n
    refine fR rfl ?_
    refine lM rfl rfl rfl ?_
    refine fM rfl ?_
    by_cases hc : n ≤ 400
    · rw [szD, if_pos hc] at hn
      refine Run.condT rfl rfl (by simp; omega) ?_
      refine fR rfl ?_
      refine Mid.elemMap rfl rfl rfl h1 rfl rfl ?_
      refine fM rfl ?_
      refine lM rfl rfl rfl ?_
      refine aN rfl rfl rfl ?_
      refine fM rfl ?_
      refine lM rfl rfl rfl ?_
      refine aN rfl rfl rfl ?_
      refine fM rfl ?_
      refine lM rfl rfl rfl ?_
      refine aN rfl rfl rfl ?_
      refine fM rfl ?_
      refine lM rfl rfl rfl ?_
      refine aN rfl rfl rfl ?_
      refine fM rfl ?_
      refine lM rfl rfl rfl ?_
      refine aN rfl rfl rfl ?_
      refine fM rfl ?_
      refine rList t.fields (fun j (m : Nat) => { env := [(1, .t (.int .i64 400)), (2, .ptr 0 0), (5, .t (.int .i64 m)), (6, .t (.int .i64 i)), (7, .ptr 1 0), (8, .t (.int .i64 j))], s := ⟨[(0, .cells [.t (.lst (ds.map Def.enc))]), (1, (.cells [.t (.int .i64 t.kind), .t (.str t.name), .t (.lst (t.implements.map sE)), .t (.lst (t.dirs.map Dir.enc)), .t (.lst (t.fields.map Field.enc)), .t (.lst (t.members.map Member.enc)), .t (.lst (t.inputs.map Input.enc))]))], 2⟩ }) (fun r2 j m => szD ds ds.length = szD r (szF r2 m) ∧ m ≤ 10000000) 2 (n + t.implements.length + t.dirs.length + t.fields.length + t.members.length + t.inputs.length) rfl ⟨hn, by omega⟩ rfl rfl rfl ?_ ?_
      · rintro m ⟨hm, hm2⟩
        refine fR rfl ?_
        refine lM rfl rfl rfl ?_
        refine fM rfl ?_
        refine Run.condF rfl rfl (by simp) ?_
        refine fR rfl ?_
        refine aL rfl rfl rfl rfl rfl ?_
        refine fM rfl ?_
        exact rWeak 1 rfl (ih m ⟨hm, hm2⟩) rfl rfl rfl
      · rintro j x r2 m h2 hj hjd ⟨hm, hm2⟩ ih2
        have hx := ht.x x (List.mem_of_getElem? h2)
        have x1 := hx.a
        have x2 := hx.d
        refine fR rfl ?_
        refine lM rfl rfl rfl ?_
        refine fM rfl ?_
        by_cases hc2 : m ≤ 400
        · rw [szF, if_pos hc2] at hm
          refine Run.condT rfl rfl (by simp; omega) ?_
          refine fR rfl ?_
          refine Mid.elemMap rfl rfl rfl h2 rfl rfl ?_
          refine fM rfl ?_
          refine lM rfl rfl rfl ?_
          refine aN rfl rfl rfl ?_
          refine fM rfl ?_
          refine Mid.elemMap rfl rfl rfl h2 rfl rfl ?_
          refine fM rfl ?_
          refine lM rfl rfl rfl ?_
          refine aN rfl rfl rfl ?_
          refine fM rfl ?_
          refine aL rfl rfl rfl rfl rfl ?_
          refine fM rfl ?_
          exact rWeak 2 rfl (ih2 (m + x.args.length + x.dirs.length) ⟨hm, by omega⟩) rfl rfl rfl
        · rw [szF, if_neg hc2] at hm
          refine Run.condF rfl rfl (by simp; omega) ?_
          refine fR rfl ?_
          refine aL rfl rfl rfl rfl rfl ?_
          refine fM rfl ?_
          exact rWeak 1 rfl (ih m ⟨hm, hm2⟩) rfl rfl rfl
    · rw [szD, if_neg hc] at hn
      refine Run.condF rfl rfl (by simp; omega) ?_
      refine fR rfl ?_
      refine Run.fin rfl (EndOk.go ?_); exact .t (by rw [hn])
def bigG (g : Graph) : Bool := decide (((szD g.doc g.doc.length : Nat) : Int) > 400)
def largeG (gs : List Graph) : Bool := decide ((gs.length : Int) > 8) || gs.any bigG
/-- graphs of bounded bulk -/
structure GBu (g : Graph) : Prop where
  ok : DocOk g.doc
  n : g.name.length ≤ 140737488355328
  b : bulkLL (g.doc.map Def.enc) ≤ 1048576
theorem szF_of {x : Field} (hb : bulkL x.enc ≤ 1048576) : SzF x := by
  have h1 := len_bulk inp_b x.args
  have h2 := dirs_b x.dirs
  simp only [Field.enc, bulkL, T.bulk] at hb
  exact ⟨by omega, by omega⟩
theorem szD_of {t : Def} (hb : bulkL t.enc ≤ 1048576) : SzD t := by
  have h1 := len_bulk fld_b t.fields
  have h2 := dirs_b t.dirs
  have h3 := len_bulk mem_b t.members
  have h4 := len_bulk inp_b t.inputs
  have h5 := len_bulk (f := sE) (fun x => by simp only [sE, bulkL, T.bulk]; omega) t.implements
  simp only [Def.enc, bulkL, T.bulk] at hb
  exact ⟨by omega, by omega, by omega, by omega, by omega, fun x hx => szF_of (by have := mem_bulk (f := Field.enc) hx; omega)⟩
theorem GBu.sz {g : Graph} (h : GBu g) : ∀ t, t ∈ g.doc → SzD t := fun t ht => szD_of (by have := mem_bulk (f := Def.enc) ht; have := h.b; omega)
theorem GBu.l {g : Graph} (h : GBu g) : g.doc.length ≤ 1048576 := docL_of h.b
theorem dk_of {l : List Dir} (ho : ∀ d, d ∈ l → d.Ok) (hb : bulkLL (l.map Dir.enc) ≤ 1048576) : DK l := ⟨by have := dirs_b l; omega, (dsok_of ho hb).all⟩
theorem fk_of {x : Field} (ho : x.Ok) (hb : bulkL x.enc ≤ 1048576) : FK x := by
  simp only [Field.enc, bulkL, T.bulk] at hb
  have := ho.t.l
  exact ⟨dk_of ho.d (by omega), ho.al, by omega, ho.nm⟩
theorem tk_of {t : Def} (ho : t.Ok) (hb : bulkL t.enc ≤ 1048576) : TK t := by
  simp only [Def.enc, bulkL, T.bulk] at hb
  have := len_bulk fld_b t.fields
  exact ⟨dk_of ho.d (by omega), by omega, fun x hx => fk_of (ho.f x hx) (by have := mem_bulk (f := Field.enc) hx; omega), ho.nm⟩
theorem GBu.k {g : Graph} (h : GBu g) : GK g.doc := ⟨h.ok, h.l, fun t ht => tk_of (h.ok.d t ht) (by have := mem_bulk (f := Def.enc) ht; have := h.b; omega)⟩
theorem GBu.d {g : Graph} (h : GBu g) : ∀ t, t ∈ g.doc → DefD t := docD_of h.ok h.b
theorem GBu.c {g : Graph} (h : GBu g) : (chkD g.doc).length ≤ 1048576 := Nat.le_trans (chkD_len _) h.b
theorem GBu.i {g : Graph} (h : GBu g) : ∀ o, o ∈ g.doc → o.inputs.length ≤ 2199023255552 := fun o ho => by have := (h.sz o ho).n; omega

theorem large25_ok (H : Pr25 P) (gs : List Graph) (hl : gs.length ≤ 140737488355328) (hb : ∀ g, g ∈ gs → GBu g) : FnOk P 30 [.t (.lst (gs.map Graph.enc))] ⟨[], 0⟩ { v := .t (.bool (largeG gs)) } := by
  refine FnOk.run H.i30 H.mixed rfl rfl ?_
  refine fR rfl ?_
  refine lM rfl rfl rfl ?_
  refine fM rfl ?_
  refine Run.cond rfl rfl (fun h => ?_) (fun h => ?_)
  · have h' : decide ((gs.length : Int) > 8) = true := h
    refine fR rfl ?_
    refine Run.fin rfl (EndOk.go ?_); exact .t (by unfold largeG; rw [h']; rfl)
  · have h' : decide ((gs.length : Int) > 8) = false := h
    have e : largeG gs = gs.any bigG := by unfold largeG; rw [h']; rfl
    rw [e]
    refine fR rfl ?_
    refine rList gs (fun i (_ : Unit) => { env := [(0, .t (.lst (gs.map Graph.enc))), (3, .t (.int .i64 i))], s := ⟨[], 0⟩ }) (fun r i _ => gs.any bigG = r.any bigG) 0 () rfl rfl rfl rfl rfl ?_ ?_
    · intro _ hinv
      refine fR rfl ?_
      refine lM rfl rfl rfl ?_
      refine fM rfl ?_
      refine Run.condF rfl rfl (by simp) ?_
      refine fR rfl ?_
      refine Run.fin rfl (EndOk.go ?_); exact .t (by rw [hinv]; rfl)
    · intro i g r _ h1 hi hd hinv ih
      have hg := hb g (List.mem_of_getElem? h1)
      refine fR rfl ?_
      refine lM rfl rfl rfl ?_
      refine fM rfl ?_
      refine Run.condT rfl rfl (by simp; omega) ?_
      refine fR rfl ?_
      refine Mid.elemMap rfl rfl rfl h1 rfl rfl ?_
      refine fM rfl ?_
      refine Mid.call (size_ok H g.doc hg.l hg.sz) rfl rfl rfl rfl ?_
      refine fM rfl ?_
      refine Run.cond rfl rfl (fun hc => ?_) (fun hc => ?_)
      · have hc' : bigG g = true := hc
        refine fR rfl ?_
        refine Run.fin rfl (EndOk.go ?_); exact .t (by rw [hinv, List.any_cons, hc']; rfl)
      · have hc' : bigG g = false := hc
        refine fR rfl ?_
        refine aL rfl rfl rfl rfl rfl ?_
        refine fM rfl ?_
        exact rWeak 0 rfl (ih () (by rw [hinv, List.any_cons, hc']; rfl)) rfl rfl rfl
def faultyG (g : Graph) : Bool := decide (((checkF g.doc false).length : Int) > 0) || decide (((chkD g.doc).length : Int) > 0)
def rightG (gs : List Graph) : Bool := !((gs.length : Int) == 0 || decide ((gs.length : Int) > 8)) && !gs.any faultyG
theorem right25_ok (H : Pr25 P) (gs : List Graph) (hl : gs.length ≤ 140737488355328) (hb : ∀ g, g ∈ gs → GBu g) : FnOk P 31 [.t (.lst (gs.map Graph.enc))] ⟨[], 0⟩ { v := .t (.bool (rightG gs)) } := by
  refine FnOk.run H.i31 H.mixed rfl rfl ?_
  refine fR rfl ?_
  refine lM rfl rfl rfl ?_
  refine fM rfl ?_
  refine lMG rfl rfl rfl rfl ?_
  refine fM rfl ?_
  refine Run.cond rfl rfl (fun h => ?_) (fun h => ?_)
  · have h' : ((gs.length : Int) == 0 || decide ((gs.length : Int) > 8)) = true := h
    refine fR rfl ?_
    refine Run.fin rfl (EndOk.go ?_); exact .t (by unfold rightG; rw [h']; rfl)
  · have h' : ((gs.length : Int) == 0 || decide ((gs.length : Int) > 8)) = false := h
    have e : rightG gs = !gs.any faultyG := by unfold rightG; rw [h']; rfl
    rw [e]
    refine fR rfl ?_
    refine rList gs (fun i (_ : Unit) => { env := [(0, .t (.lst (gs.map Graph.enc))), (3, .t (.int .i64 i))], s := ⟨[], 0⟩ }) (fun r i _ => gs.any faultyG = r.any faultyG) 0 () rfl rfl rfl rfl rfl ?_ ?_
    · intro _ hinv
      refine fR rfl ?_
      refine lM rfl rfl rfl ?_
      refine fM rfl ?_
      refine Run.condF rfl rfl (by simp) ?_
      refine fR rfl ?_
      refine Run.fin rfl (EndOk.go ?_); exact .t (by rw [hinv]; rfl)
    · intro i g r _ h1 hi hd hinv ih
      have hgb := hb g (List.mem_of_getElem? h1)
      have hcl := check_lenR hgb.b false
      have hdl := hgb.c
      have hgl := hgb.l
      have h5 := check_ok H.toPr g.doc hgb.ok hgb.i false hcl
      have h6 := rCheck_ok H.toPr23 g.doc (by omega) hgb.d (by omega)
      refine fR rfl ?_
      refine lM rfl rfl rfl ?_
      refine fM rfl ?_
      refine Run.condT rfl rfl (by simp; omega) ?_
      refine fR rfl ?_
      refine Mid.elemMap rfl rfl rfl h1 rfl rfl ?_
      refine fM rfl ?_
      refine Mid.call (h5) rfl rfl rfl rfl ?_
      refine lM rfl rfl rfl ?_
      refine fM rfl ?_
      refine elG rfl rfl rfl rfl h1 rfl rfl ?_
      refine fM rfl ?_
      refine caG rfl rfl (fun hg => ⟨_, rfl, h6, rfl⟩) rfl rfl ?_
      refine lMG rfl rfl rfl rfl ?_
      refine fM rfl ?_
      refine Run.cond rfl rfl (fun hc => ?_) (fun hc => ?_)
      · have hc' : faultyG g = true := hc
        refine fR rfl ?_
        refine Run.fin rfl (EndOk.go ?_); exact .t (by rw [hinv, List.any_cons, hc']; rfl)
      · have hc' : faultyG g = false := hc
        refine fR rfl ?_
        refine aL rfl rfl rfl rfl rfl ?_
        refine fM rfl ?_
        exact rWeak 0 rfl (ih () (by rw [hinv, List.any_cons, hc']; rfl)) rfl rfl rfl
end Go.GB.C23


/-
  F25M: moves: the order of graphs does not matter; the law.
-/
namespace Go.GB.C23
open Go.GB Go.GB.C11
set_option linter.unusedSimpArgs false
set_option linter.unusedVariables false
set_option maxRecDepth 100000
set_option maxHeartbeats 4000000
variable {P : Program}

/- how many keys, joins and violations -/
theorem kDefs_len (i : Nat) : ∀ ds : List Def, (kDefs i ds).length ≤ bulkLL (ds.map Def.enc)
  | [] => by simp [kDefs]
  | t :: r => by
    have h1 := kDefs_len i r
    have h2 := keysD_len t.dirs
    have h3 := dirs_b t.dirs
    simp only [kDefs, kDef, List.length_append, List.map_cons, bulkLL, Def.enc, bulkL, T.bulk] at h1 ⊢
    split
    · simp only [List.length_map]; omega
    · simp only [List.length_nil]; omega
theorem jDefs_len (i : Nat) : ∀ ds : List Def, (jDefs i ds).length ≤ bulkLL (ds.map Def.enc)
  | [] => by simp [jDefs]
  | t :: r => by
    have h1 := jDefs_len i r
    have h3 := len_bulk fld_b t.fields
    simp only [jDefs, jDef, List.length_append, List.map_cons, bulkLL, Def.enc, bulkL, T.bulk] at h1 ⊢
    split
    · simp only [List.length_map]; omega
    · simp only [List.length_nil]; omega
theorem fL_len (gs : List Graph) (i : Nat) (g : Graph) (t : Def) : ∀ l : List Field, (fL gs i g t l).length ≤ 4 * l.length
  | [] => by simp [fL]
  | x :: r => by
    have h1 := fL_len gs i g t r
    have h2 := fieldF_len gs i g t x
    simp only [fL, List.length_append, List.length_cons]; omega
theorem bDefs_len (gs : List Graph) (i : Nat) (g : Graph) : ∀ ds : List Def, (bDefs gs i g ds).length ≤ 4 * bulkLL (ds.map Def.enc)
  | [] => by simp [bDefs]
  | t :: r => by
    have h1 := bDefs_len gs i g r
    have h2 := keyL_len g t (keysD t.dirs) 0
    have h3 := keysD_len t.dirs
    have h4 := dirs_b t.dirs
    have h5 := fL_len gs i g t t.fields
    have h6 := len_bulk fld_b t.fields
    simp only [bDefs, bDef, List.length_append, List.map_cons, bulkLL, Def.enc, bulkL, T.bulk] at h1 ⊢
    split
    · simp only [List.length_append]; omega
    · simp only [List.length_nil]; omega
theorem graph_b (g : Graph) : bulkLL (g.doc.map Def.enc) + 1 ≤ bulkL g.enc := by simp only [Graph.enc, bulkL, T.bulk]; omega
theorem kAll_len : ∀ (gs : List Graph) (i : Nat), (kAll i gs).length ≤ bulkLL (gs.map Graph.enc)
  | [], i => by simp [kAll]
  | g :: r, i => by
    have h1 := kAll_len r (i + 1)
    have h2 := kDefs_len i g.doc
    have h3 := graph_b g
    simp only [kAll, List.length_append, List.map_cons, bulkLL]; omega
theorem jAll_len : ∀ (gs : List Graph) (i : Nat), (jAll i gs).length ≤ bulkLL (gs.map Graph.enc)
  | [], i => by simp [jAll]
  | g :: r, i => by
    have h1 := jAll_len r (i + 1)
    have h2 := jDefs_len i g.doc
    have h3 := graph_b g
    simp only [jAll, List.length_append, List.map_cons, bulkLL]; omega
theorem bAll_len (G : List Graph) : ∀ (gs : List Graph) (i : Nat), (bAll G i gs).length ≤ 4 * bulkLL (gs.map Graph.enc)
  | [], i => by simp [bAll]
  | g :: r, i => by
    have h1 := bAll_len G r (i + 1)
    have h2 := bDefs_len G i g g.doc
    have h3 := graph_b g
    simp only [bAll, List.length_append, List.map_cons, bulkLL]; omega
/-- graphs whose bulk is bounded -/
structure GsOk (gs : List Graph) : Prop where
  o : ∀ g, g ∈ gs → DocOk g.doc ∧ g.name.length ≤ 140737488355328
  b : bulkLL (gs.map Graph.enc) ≤ 1048576
theorem GsOk.l {gs : List Graph} (h : GsOk gs) : gs.length ≤ 1048576 := by
  have := len_bulk (f := Graph.enc) (fun g => by have := graph_b g; omega) gs
  have := h.b; omega
theorem GsOk.u {gs : List Graph} (h : GsOk gs) : ∀ g, g ∈ gs → GBu g := fun g hg =>
  ⟨(h.o g hg).1, (h.o g hg).2, by have h1 := mem_bulk (f := Graph.enc) hg; have h2 := graph_b g; have h3 := h.b; omega⟩
theorem GsOk.j {gs : List Graph} (h : GsOk gs) : JoinsB gs := by
  have h1 := kAll_len gs 0
  have h2 := jAll_len gs 0
  have h3 := bAll_len gs gs 0
  have h4 := h.l
  have h5 := h.b
  exact ⟨by omega, fun g hg => (h.u g hg).k, fun g hg => (h.o g hg).2, by omega, by omega, by omega⟩
theorem bulkLL_append : ∀ (a b : List (List T)), bulkLL (a ++ b) = bulkLL a + bulkLL b
  | [], b => by simp [bulkLL]
  | x :: r, b => by simp only [List.cons_append, bulkLL, bulkLL_append r b]; omega
theorem bulkLL_reverse : ∀ (a : List (List T)), bulkLL a.reverse = bulkLL a
  | [] => rfl
  | x :: r => by rw [List.reverse_cons, bulkLL_append, bulkLL_reverse r]; simp only [bulkLL]; omega
theorem GsOk.rev {gs : List Graph} (h : GsOk gs) : GsOk gs.reverse :=
  ⟨fun g hg => h.o g (List.mem_reverse.1 hg), by rw [List.map_reverse, bulkLL_reverse]; exact h.b⟩

/- sums along graphs -/
def sumG (F : Nat → Graph → Nat) : Nat → List Graph → Nat
  | _, [] => 0
  | i, g :: r => F i g + sumG F (i + 1) r
theorem sumG_append (F : Nat → Graph → Nat) : ∀ (a b : List Graph) (i : Nat), sumG F i (a ++ b) = sumG F i a + sumG F (i + a.length) b
  | [], b, i => by simp [sumG]
  | g :: r, b, i => by
    rw [List.cons_append, sumG, sumG, sumG_append F r b (i + 1), List.length_cons, show i + 1 + r.length = i + (r.length + 1) by omega]; omega
theorem sumG_shift (F : Nat → Graph → Nat) : ∀ (a : List Graph) (i : Nat), sumG F (i + 1) a = sumG (fun j => F (j + 1)) i a
  | [], i => rfl
  | g :: r, i => by rw [sumG, sumG, sumG_shift F r (i + 1)]
theorem sumG_congr {F F' : Nat → Graph → Nat} : ∀ (a : List Graph) (i : Nat), (∀ j g, a[j]? = some g → F (i + j) g = F' (i + j) g) → sumG F i a = sumG F' i a
  | [], i, _ => rfl
  | g :: r, i, h => by
    have h0 := h 0 g rfl
    rw [Nat.add_zero] at h0
    have h1 := sumG_congr (F := F) (F' := F') r (i + 1) fun j x hx => by
      have h2 := h (j + 1) x (by simpa using hx)
      rw [show i + (j + 1) = i + 1 + j by omega] at h2
      exact h2
    rw [sumG, sumG, h0, h1]
theorem sumG_rev (F : Nat → Graph → Nat) : ∀ (a : List Graph), sumG F 0 a.reverse = sumG (fun i g => F (a.length - 1 - i) g) 0 a
  | [] => rfl
  | g :: r => by
    rw [List.reverse_cons, sumG_append, sumG_rev F r, sumG, List.length_reverse]
    simp only [sumG, Nat.zero_add, List.length_cons, Nat.add_sub_cancel, Nat.sub_zero, Nat.add_zero]
    have e := sumG_shift (fun i g => F (r.length - i) g) r 0
    rw [Nat.zero_add] at e
    have e2 := sumG_congr (F := fun j g => F (r.length - (j + 1)) g) (F' := fun i g => F (r.length - 1 - i) g) r 0 fun j x hx => by
      show F (r.length - (0 + j + 1)) x = F (r.length - 1 - (0 + j)) x
      rw [show r.length - (0 + j + 1) = r.length - 1 - (0 + j) by omega]
    rw [e, e2]
    omega
theorem kAll_sum : ∀ (gs : List Graph) (i : Nat), (kAll i gs).length = sumG (fun i g => (kDefs i g.doc).length) i gs
  | [], i => rfl
  | g :: r, i => by rw [kAll, List.length_append, kAll_sum r (i + 1)]; rfl
theorem jAll_sum : ∀ (gs : List Graph) (i : Nat), (jAll i gs).length = sumG (fun i g => (jDefs i g.doc).length) i gs
  | [], i => rfl
  | g :: r, i => by rw [jAll, List.length_append, jAll_sum r (i + 1)]; rfl
theorem bAll_sum (G : List Graph) : ∀ (gs : List Graph) (i : Nat), (bAll G i gs).length = sumG (fun i g => (bDefs G i g g.doc).length) i gs
  | [], i => rfl
  | g :: r, i => by rw [bAll, List.length_append, bAll_sum G r (i + 1)]; rfl
theorem kDefs_at (i j : Nat) : ∀ ds : List Def, (kDefs i ds).length = (kDefs j ds).length
  | [] => rfl
  | t :: r => by
    rw [kDefs, kDefs, List.length_append, List.length_append, kDefs_at i j r, kDef, kDef]
    split <;> simp
theorem jDefs_at (i j : Nat) : ∀ ds : List Def, (jDefs i ds).length = (jDefs j ds).length
  | [] => rfl
  | t :: r => by
    rw [jDefs, jDefs, List.length_append, List.length_append, jDefs_at i j r, jDef, jDef]
    split <;> simp
theorem othM_iff (a : Nat) (n f : Str) : ∀ (l : List Graph) (i : Nat), othM a n f i l = true ↔ ∃ (j : Nat) (g : Graph), l[j]? = some g ∧ i + j ≠ a ∧ resM g.doc n f = true
  | [], i => by simp [othM]
  | g :: r, i => by
    rw [othM, Bool.or_eq_true, Bool.and_eq_true, othM_iff a n f r (i + 1)]
    constructor
    · rintro (⟨h1, h2⟩ | ⟨j, x, h1, h2, h3⟩)
      · exact ⟨0, g, rfl, by simp at h1; omega, h2⟩
      · exact ⟨j + 1, x, by simpa using h1, by omega, h3⟩
    · rintro ⟨j, x, h1, h2, h3⟩
      cases j with
      | zero =>
        simp at h1; subst h1
        exact .inl ⟨by simp; omega, h3⟩
      | succ j => exact .inr ⟨j, x, by simpa using h1, by omega, h3⟩
theorem othM_rev {gs : List Graph} {i : Nat} (hi : i < gs.length) (n f : Str) : othM (gs.length - 1 - i) n f 0 gs.reverse = othM i n f 0 gs := by
  rw [Bool.eq_iff_iff, othM_iff, othM_iff]
  constructor
  · rintro ⟨j, g, h1, h2, h3⟩
    have hj : j < gs.length := by have := (List.getElem?_eq_some_iff.1 h1).1; rwa [List.length_reverse] at this
    rw [List.getElem?_reverse hj] at h1
    exact ⟨gs.length - 1 - j, g, h1, by omega, h3⟩
  · rintro ⟨j, g, h1, h2, h3⟩
    have hj : j < gs.length := (List.getElem?_eq_some_iff.1 h1).1
    refine ⟨gs.length - 1 - j, g, ?_, by omega, h3⟩
    rw [List.getElem?_reverse (by omega), show gs.length - 1 - (gs.length - 1 - j) = j by omega]
    exact h1
theorem fieldF_rev {gs : List Graph} {i : Nat} (hi : i < gs.length) (g : Graph) (t : Def) (x : Field) : fieldF gs.reverse (gs.length - 1 - i) g t x = fieldF gs i g t x := by
  unfold fieldF c1M c2M c4M
  rw [othM_rev hi, List.any_reverse]
theorem fL_rev {gs : List Graph} {i : Nat} (hi : i < gs.length) (g : Graph) (t : Def) : ∀ l : List Field, fL gs.reverse (gs.length - 1 - i) g t l = fL gs i g t l
  | [] => rfl
  | x :: r => by rw [fL, fL, fieldF_rev hi, fL_rev hi g t r]
theorem bDefs_rev {gs : List Graph} {i : Nat} (hi : i < gs.length) (g : Graph) : ∀ ds : List Def, bDefs gs.reverse (gs.length - 1 - i) g ds = bDefs gs i g ds
  | [] => rfl
  | t :: r => by rw [bDefs, bDefs, bDef, bDef, fL_rev hi, bDefs_rev hi g r]
theorem kAll_rev (gs : List Graph) : (kAll 0 gs.reverse).length = (kAll 0 gs).length := by
  rw [kAll_sum, kAll_sum, sumG_rev]
  exact sumG_congr _ _ fun j g _ => kDefs_at ..
theorem jAll_rev (gs : List Graph) : (jAll 0 gs.reverse).length = (jAll 0 gs).length := by
  rw [jAll_sum, jAll_sum, sumG_rev]
  exact sumG_congr _ _ fun j g _ => jDefs_at ..
theorem bAll_rev (gs : List Graph) : (bAll gs.reverse 0 gs.reverse).length = (bAll gs 0 gs).length := by
  rw [bAll_sum, bAll_sum, sumG_rev]
  refine sumG_congr _ _ fun j g h => ?_
  have hj : j < gs.length := (List.getElem?_eq_some_iff.1 h).1
  rw [Nat.zero_add, bDefs_rev hj]

theorem order25_ok (H : Pr25 P) (gs : List Graph) (hg : GsOk gs) : FnOk P 9 [.t (.lst (gs.map Graph.enc))] ⟨[], 0⟩ { v := .t (.bool true) } := by
  have hl := hg.l
  have h1 := large25_ok H gs (by omega) hg.u
  have h2 := right25_ok H gs (by omega) hg.u
  have h3 := joins_ok H gs hg.j
  have h4 := joins_ok H gs.reverse hg.rev.j
  have hnil : (bAll gs.reverse 0 gs.reverse = []) = (bAll gs 0 gs = []) := by
    rw [← List.length_eq_zero_iff, ← List.length_eq_zero_iff, bAll_rev]
  have e1 : ((if bAll gs.reverse 0 gs.reverse = [] then kAll 0 gs.reverse else []) : List KeyO).length = ((if bAll gs 0 gs = [] then kAll 0 gs else []) : List KeyO).length := by
    simp only [hnil]; split
    · exact kAll_rev gs
    · rfl
  have e2 : ((if bAll gs.reverse 0 gs.reverse = [] then jAll 0 gs.reverse else []) : List Jn).length = ((if bAll gs 0 gs = [] then jAll 0 gs else []) : List Jn).length := by
    simp only [hnil]; split
    · exact jAll_rev gs
    · rfl
  have e3 := bAll_rev gs
  generalize ((if bAll gs.reverse 0 gs.reverse = [] then kAll 0 gs.reverse else []) : List KeyO) = K2 at h4 e1
  generalize ((if bAll gs.reverse 0 gs.reverse = [] then jAll 0 gs.reverse else []) : List Jn) = J2 at h4 e2
  generalize bAll gs.reverse 0 gs.reverse = B2 at h4 e3
  generalize ((if bAll gs 0 gs = [] then kAll 0 gs else []) : List KeyO) = K1 at h3 e1
  generalize ((if bAll gs 0 gs = [] then jAll 0 gs else []) : List Jn) = J1 at h3 e2
  generalize bAll gs 0 gs = B1 at h3 e3
  refine FnOk.run H.i9 H.mixed rfl rfl ?_
  refine fR rfl ?_
  refine Mid.call (h1) rfl rfl rfl rfl ?_
  refine fM rfl ?_
  refine caG rfl rfl (fun hg => ⟨_, rfl, h2, rfl⟩) rfl rfl ?_
  refine fM rfl ?_
  refine Run.cond rfl rfl (fun h => ?_) (fun h => ?_)
  · refine fR rfl ?_
    refine Mid.call (ex32_ok H) rfl rfl rfl rfl ?_
    refine fM rfl ?_
    refine Run.fin rfl (EndOk.go ?_); exact .t rfl
  · refine fR rfl ?_
    refine lM rfl rfl rfl ?_
    refine s64 rfl rfl rfl ?_
    refine fM rfl ?_
    refine rList gs.reverse (fun i (B : List Graph) => { env := [(0, .t (.lst (gs.map Graph.enc))), (3, .own 0 2 (B.map Graph.enc)), (4, .t (.int .i64 ((gs.length : Int) - 1 - (i : Int))))], s := ⟨[(0, .arr B.length)], 1⟩ }) (fun r i B => B.length = i ∧ B ++ r = gs.reverse) 0 [] rfl ⟨rfl, rfl⟩ rfl rfl rfl ?_ ?_ (he := (by repeat' (first | exact trivial | exact LeX.t | exact LeX.top | exact LeX.nilOwn (Nat.le_of_ble_eq_true rfl) (Nat.le_of_ble_eq_true rfl) | exact LeX.ownT | exact LeX.nilT | exact LeX.same rfl | exact LeX.tEq (by simp) | exact LeX.ownEq (by simp) (Nat.le_of_ble_eq_true rfl) | exact LeX.tEq (by congr 1 <;> omega) | exact Or.inr ⟨Nat.le_of_ble_eq_true rfl, Nat.le_of_ble_eq_true rfl, rfl⟩ | refine Or.inl ⟨Nat.le_of_ble_eq_true rfl, _, rfl, ?_⟩ | refine LeO.cells ?_ | exact LeO.arr rfl | exact LeO.arr (by simp) | exact LeO.mE (by first | rfl | simp) (by first | exact Or.inl rfl | exact Or.inr rfl) | exact LeO.cE (by first | rfl | simp) | exact LeXs.cE (by first | rfl | simp) | refine LeO.map (by first | rfl | simp) ?_ (by first | exact Or.inl rfl | exact Or.inr rfl) | exact LeO.iter (by first | rfl | simp) (Nat.le_of_ble_eq_true rfl) | refine LeXs.cons ?_ ?_ | exact LeXs.nil | refine And.intro ?_ ?_))) (hs := (by repeat' (first | exact trivial | exact LeX.t | exact LeX.top | exact LeX.nilOwn (Nat.le_of_ble_eq_true rfl) (Nat.le_of_ble_eq_true rfl) | exact LeX.ownT | exact LeX.nilT | exact LeX.same rfl | exact LeX.tEq (by simp) | exact LeX.ownEq (by simp) (Nat.le_of_ble_eq_true rfl) | exact LeX.tEq (by congr 1 <;> omega) | exact Or.inr ⟨Nat.le_of_ble_eq_true rfl, Nat.le_of_ble_eq_true rfl, rfl⟩ | refine Or.inl ⟨Nat.le_of_ble_eq_true rfl, _, rfl, ?_⟩ | refine LeO.cells ?_ | exact LeO.arr rfl | exact LeO.arr (by simp) | exact LeO.mE (by first | rfl | simp) (by first | exact Or.inl rfl | exact Or.inr rfl) | exact LeO.cE (by first | rfl | simp) | exact LeXs.cE (by first | rfl | simp) | refine LeO.map (by first | rfl | simp) ?_ (by first | exact Or.inl rfl | exact Or.inr rfl) | exact LeO.iter (by first | rfl | simp) (Nat.le_of_ble_eq_true rfl) | refine LeXs.cons ?_ ?_ | exact LeXs.nil | refine And.intro ?_ ?_)))
    · rintro B ⟨_, hB⟩
      obtain rfl : B = gs.reverse := by rw [← hB]; simp
      refine rWeakC 0 rfl (st' := { env := [(0, .t (.lst (gs.map Graph.enc))), (3, .t (.lst (gs.reverse.map Graph.enc))), (4, .t (.int .i64 ((gs.length : Int) - 1 - ((gs.reverse.length : Nat) : Int))))], s := ⟨[], 0⟩ }) ?_ rfl rfl rfl
      refine fR rfl ?_
      refine Run.condF rfl rfl (by simp; omega) ?_
      refine fR rfl ?_
      refine Mid.call (h3) rfl rfl rfl rfl ?_
      refine fM rfl ?_
      refine Mid.call (h4) rfl rfl rfl rfl ?_
      refine fM rfl ?_
      refine lM rfl rfl rfl ?_
      refine fM rfl ?_
      refine lM rfl rfl rfl ?_
      refine fM rfl ?_
      refine lMG rfl rfl rfl rfl ?_
      refine fM rfl ?_
      refine lMG rfl rfl rfl rfl ?_
      refine fM rfl ?_
      refine lMG rfl rfl rfl rfl ?_
      refine fM rfl ?_
      refine lMG rfl rfl rfl rfl ?_
      refine fM rfl ?_
      refine caG rfl rfl (fun hg => ⟨_, rfl, ex32_ok H, rfl⟩) rfl rfl ?_
      refine fM rfl ?_
      refine Run.fin rfl (EndOk.go ?_); exact .t (by rw [e1, e2, e3]; simp)
    · rintro i g r B g1 hi hdr ⟨hBl, hB⟩ ih
      have hi' : i < gs.length := by rwa [List.length_reverse] at hi
      have hBl' : B.length = i := hBl
      have g2 : gs[gs.length - 1 - i]? = some g := by rw [← g1, List.getElem?_reverse hi']
      rw [show ((gs.length : Int) - 1 - (i : Int)) = ((gs.length - 1 - i : Nat) : Int) by omega]
      refine fR rfl ?_
      refine Run.condT rfl rfl (by simp) ?_
      refine fR rfl ?_
      refine Mid.elemMap rfl rfl rfl g2 rfl rfl ?_
      refine fM rfl ?_
      refine apM Graph.enc B [g] rfl rfl rfl rfl rfl ?_ (h1 := by first | omega | (simp; omega) | (simp; done)) (h2 := by first | omega | (simp; omega) | (simp; done))
      refine fM rfl ?_
      refine s64 rfl rfl rfl ?_
      refine fM rfl ?_
      have e0 : ((gs.length - 1 - i : Nat) : Int) - 1 = (gs.length : Int) - 1 - ((i : Int) + 1) := by omega
      exact rWeak 1 rfl (ih (B ++ [g]) ⟨by simp; omega, by rw [← hB]; simp⟩) rfl rfl rfl (he := (by repeat' (first | exact trivial | exact LeX.t | exact LeX.top | exact LeX.nilOwn (Nat.le_of_ble_eq_true rfl) (Nat.le_of_ble_eq_true rfl) | exact LeX.ownT | exact LeX.nilT | exact LeX.same rfl | exact LeX.tEq (by simp[e0]) | exact LeX.ownEq (by simp[e0]) (Nat.le_of_ble_eq_true rfl) | exact LeX.tEq (by congr 1 <;> omega) | exact Or.inr ⟨Nat.le_of_ble_eq_true rfl, Nat.le_of_ble_eq_true rfl, rfl⟩ | refine Or.inl ⟨Nat.le_of_ble_eq_true rfl, _, rfl, ?_⟩ | refine LeO.cells ?_ | exact LeO.arr rfl | exact LeO.arr (by simp[e0]) | exact LeO.mE (by first | rfl | simp[e0]) (by first | exact Or.inl rfl | exact Or.inr rfl) | exact LeO.cE (by first | rfl | simp[e0]) | exact LeXs.cE (by first | rfl | simp[e0]) | refine LeO.map (by first | rfl | simp) ?_ (by first | exact Or.inl rfl | exact Or.inr rfl) | exact LeO.iter (by first | rfl | simp) (Nat.le_of_ble_eq_true rfl) | refine LeXs.cons ?_ ?_ | exact LeXs.nil | refine And.intro ?_ ?_))) (hs := (by repeat' (first | exact trivial | exact LeX.t | exact LeX.top | exact LeX.nilOwn (Nat.le_of_ble_eq_true rfl) (Nat.le_of_ble_eq_true rfl) | exact LeX.ownT | exact LeX.nilT | exact LeX.same rfl | exact LeX.tEq (by simp[e0]) | exact LeX.ownEq (by simp[e0]) (Nat.le_of_ble_eq_true rfl) | exact LeX.tEq (by congr 1 <;> omega) | exact Or.inr ⟨Nat.le_of_ble_eq_true rfl, Nat.le_of_ble_eq_true rfl, rfl⟩ | refine Or.inl ⟨Nat.le_of_ble_eq_true rfl, _, rfl, ?_⟩ | refine LeO.cells ?_ | exact LeO.arr rfl | exact LeO.arr (by simp[e0]) | exact LeO.mE (by first | rfl | simp[e0]) (by first | exact Or.inl rfl | exact Or.inr rfl) | exact LeO.cE (by first | rfl | simp[e0]) | exact LeXs.cE (by first | rfl | simp[e0]) | refine LeO.map (by first | rfl | simp) ?_ (by first | exact Or.inl rfl | exact Or.inr rfl) | exact LeO.iter (by first | rfl | simp) (Nat.le_of_ble_eq_true rfl) | refine LeXs.cons ?_ ?_ | exact LeXs.nil | refine And.intro ?_ ?_)))
end Go.GB.C23


/-
  D11R: shapes of chapter 11's arguments.
-/
namespace Go.GB.C11
open Go.GB

theorem spV_ok {P : Program} {vt : TypeId} (hb : P.bytesOf vt = 80) (hs : shOf P (spV vt) 6 vt = some valSh) :
    ∀ e i n xs, spV vt e = some i → xs.length * P.bytesOf e ≤ reachBytes → xs.length ≤ maxLen → (∀ c ∈ xs, WT P n e c) → YA i (.lst xs) := by
  have hv := val_wt hb hs
  intro e i k xs he hr hl hc
  have := reach_le
  unfold spV at he
  split at he
  · rename_i e1; subst e1
    simp only [Option.some.injEq] at he; subst he
    obtain ⟨l, rfl, h3⟩ := choose_map (f := Val.enc) (Q := Val.Ok) xs fun c hcm => hv k c (hc c hcm)
    rw [hb] at hr
    exact ⟨l, rfl, by unfold B47; simp at hr; omega, h3⟩
  · cases he
end Go.GB.C11


/-
  F25J: shapes of graphs and supergraphs, as laws are handed them.
-/
namespace Go.GB.C23
open Go.GB Go.GB.C11
set_option linter.unusedSimpArgs false
set_option linter.unusedVariables false

def graphSh : List Sh := [.str, .lst 144 defSh]
theorem graph_sh {c : List T} (h : Sh.oks YA graphSh c) : ∃ g : Graph, c = g.enc ∧ (DocOk g.doc ∧ g.name.length ≤ 140737488355328) := by
  have := reach_le
  obtain ⟨x, c, rfl, ⟨n, rfl, hn⟩, g1⟩ := Sh.oks_cons h
  obtain ⟨l, c', rfl, h1, h2⟩ := doc_sh (r := []) g1
  obtain rfl := Sh.oks_nil h2
  exact ⟨⟨n, l⟩, rfl, h1, by show n.length ≤ _; omega⟩
theorem graphs_sh0 {c : List T} (h : Sh.oks YA [.lst 40 graphSh] c) : ∃ l : List Graph, c = [.lst (l.map Graph.enc)] ∧ l.length ≤ 140737488355328 ∧ ∀ g, g ∈ l → DocOk g.doc ∧ g.name.length ≤ 140737488355328 := by
  have := reach_le
  obtain ⟨x, c, rfl, hx, g⟩ := Sh.oks_cons h
  obtain rfl := Sh.oks_nil g
  obtain ⟨l, rfl, h1, _, h2⟩ := list_of (fun c hc => graph_sh hc) hx
  exact ⟨l, rfl, by omega, h2⟩
end Go.GB.C23

