/-
  YtilonlfmalfofaaP6: lemmas of this proof (part 6). No conditions.
-/
import Derived.Test.YtilonlfmalfofaaP5
import Derived.Test.YtilonlfmalfofaaP4

/-
  A43C: contracts of chapters 43's functions: types, fields, copies, filters.
-/
namespace Go.GB.C43
open Go.GB
set_option linter.unusedSimpArgs false
set_option linter.unusedVariables false
set_option maxRecDepth 100000
set_option maxHeartbeats 1000000
variable {P : Program}

def typeP (ds : List Def) (n : Str) (u : User) : Bool := !(findDef n ds).isSome || permits ((findDef n ds).getD Def.zero).dirs u
def mayP (ds : List Def) (u : User) (on f : Str) : Bool :=
  if (!typeP ds on u) = true then false
  else !(findField f ((findDef on ds).getD Def.zero).fields).isSome || (permits ((findField f ((findDef on ds).getD Def.zero).fields).getD Field.zero).dirs u && typeP ds ((findField f ((findDef on ds).getD Def.zero).fields).getD Field.zero).ty.name u)

theorem defOk {ds : List Def} (ho : DocOk ds) (n : Str) : ((findDef n ds).getD Def.zero).Ok := by
  cases h : findDef n ds with
  | none => exact Def.zero_ok
  | some d => exact ho.d d (findDef_mem h)
theorem fieldOk {d : Def} (ho : d.Ok) (n : Str) : ((findField n d.fields).getD Field.zero).Ok := by
  cases h : findField n d.fields with
  | none => exact Field.zero_ok
  | some f => exact ho.f f (findField_mem h)

theorem type_ok (H : Pr P) (ds : List Def) (ho : DocOk ds) (n : Str) (u : User) (hu : u.scopes.length ≤ 140737488355328) : FnOk P 17 [docV ds, .t (.str n), u.v] ⟨[], 0⟩ { v := .t (.bool (typeP ds n u)) } := by
  have hd := defOk ho n
  refine FnOk.run H.i17 H.mixed rfl rfl ?_
  refine fR rfl ?_
  refine Mid.call (find_ok H ds ho.l n) rfl rfl rfl rfl ?_
  refine fM rfl ?_
  refine caG rfl rfl (fun hg => ⟨_, rfl, permits_ok H _ hd.dl hd.d u hu, rfl⟩) rfl rfl ?_
  refine fM rfl ?_
  refine Run.fin rfl (EndOk.go ?_); exact .t (by simp [typeP])
theorem may_ok (H : Pr P) (ds : List Def) (ho : DocOk ds) (on f : Str) (u : User) (hu : u.scopes.length ≤ 140737488355328) : FnOk P 15 [docV ds, .t (.str on), .t (.str f), u.v] ⟨[], 0⟩ { v := .t (.bool (mayP ds u on f)) } := by
  have hd := defOk ho on
  have hf := fieldOk hd f
  refine FnOk.run H.i15 H.mixed rfl rfl ?_
  refine fR rfl ?_
  refine Mid.call (type_ok H ds ho on u hu) rfl rfl rfl rfl ?_
  refine fM rfl ?_
  refine Run.cond rfl rfl (fun h => ?_) (fun h => ?_)
  · refine fR rfl ?_
    refine Run.fin rfl (EndOk.go ?_); exact .t (by simp only [mayP]; rw [if_pos h])
  · have h' : ¬ (!typeP ds on u) = true := by rw [h]; simp
    refine fR rfl ?_
    refine Mid.call (find_ok H ds ho.l on) rfl rfl rfl rfl ?_
    refine fM rfl ?_
    refine Mid.call (fieldOf_ok H _ hd.fl f) rfl rfl rfl rfl ?_
    refine fM rfl ?_
    refine caG rfl rfl (fun hg => ⟨_, rfl, permits_ok H _ hf.l hf.d u hu, rfl⟩) rfl rfl ?_
    refine fM rfl ?_
    refine caG rfl rfl (fun hg => ⟨_, rfl, type_ok H ds ho _ u hu, rfl⟩) rfl rfl ?_
    refine fM rfl ?_
    refine Run.fin rfl (EndOk.go ?_); exact .t (by simp only [mayP]; rw [if_neg h'])

theorem cloneI_ok (H : Pr P) (l : List Int) (hl : l.length * 8 ≤ 140737488355328) : FnOk P 99 [.t (.lst (l.map nE))] ⟨[], 0⟩ { v := .t (.lst (l.map nE)) } := by
  refine FnOk.run H.i99 H.mixed rfl rfl ?_
  refine fR rfl ?_
  refine p0 rfl ?_
  refine fM rfl ?_
  refine Run.condU rfl rfl (fun h => ?_) (fun _ => ?_)
  · have hn : l = [] := by
      cases l with
      | nil => rfl
      | cons x r =>
        have := h (nE x) (by simp)
        simp [nE] at this
    subst hn
    refine fR rfl ?_
    refine Run.fin rfl (EndOk.go ?_); exact .nil rfl
  · refine fR rfl ?_
    refine apN nE l rfl rfl rfl ?_ (h1 := hl) (h2 := by omega)
    refine fM rfl ?_
    refine Run.fin rfl (EndOk.go ?_); exact .own rfl
theorem cloneS_ok (H : Pr P) (l : List Str) (hl : l.length * 16 ≤ 140737488355328) : FnOk P 122 [.t (.lst (l.map sE))] ⟨[], 0⟩ { v := .t (.lst (l.map sE)) } := by
  refine FnOk.run H.i122 H.mixed rfl rfl ?_
  refine fR rfl ?_
  refine p0 rfl ?_
  refine fM rfl ?_
  refine Run.condU rfl rfl (fun h => ?_) (fun _ => ?_)
  · have hn : l = [] := by
      cases l with
      | nil => rfl
      | cons x r =>
        have := h (sE x) (by simp)
        simp [sE] at this
    subst hn
    refine fR rfl ?_
    refine Run.fin rfl (EndOk.go ?_); exact .nil rfl
  · refine fR rfl ?_
    refine apN sE l rfl rfl rfl ?_ (h1 := hl) (h2 := by omega)
    refine fM rfl ?_
    refine Run.fin rfl (EndOk.go ?_); exact .own rfl
theorem cloneH_ok (H : Pr P) (l : List Hop) (hl : l.length * 32 ≤ 140737488355328) : FnOk P 120 [.t (.lst (l.map Hop.enc))] ⟨[], 0⟩ { v := .t (.lst (l.map Hop.enc)) } := by
  refine FnOk.run H.i120 H.mixed rfl rfl ?_
  refine fR rfl ?_
  refine p0 rfl ?_
  refine fM rfl ?_
  refine Run.condU rfl rfl (fun h => ?_) (fun _ => ?_)
  · have hn : l = [] := by
      cases l with
      | nil => rfl
      | cons x r =>
        have := h (Hop.enc x) (by simp)
        simp [Hop.enc] at this
    subst hn
    refine fR rfl ?_
    refine Run.fin rfl (EndOk.go ?_); exact .nil rfl
  · refine fR rfl ?_
    refine apN Hop.enc l rfl rfl rfl ?_ (h1 := hl) (h2 := by omega)
    refine fM rfl ?_
    refine Run.fin rfl (EndOk.go ?_); exact .own (by simp)

theorem copies_ok (H : Pr P) (l : List Val) (hl : l.length * 80 ≤ 140737488355328) (hc : ∀ x, x ∈ l → FnOk P 100 [x.v] ⟨[], 0⟩ { v := x.v }) : FnOk P 121 [.t (.lst (l.map Val.enc))] ⟨[], 0⟩ { v := .t (.lst (l.map Val.enc)) } := by
  refine FnOk.run H.i121 H.mixed rfl rfl ?_
  refine fR rfl ?_
  refine lM rfl rfl rfl ?_
  refine fM rfl ?_
  refine rList l (fun i (B : List Val) => { env := [(3, .own 0 5 (B.map Val.enc)), (6, .t (.lst (l.map Val.enc))), (7, .t (.int .i64 l.length)), (8, .t (.int .i64 i))], s := ⟨[(0, .arr B.length)], 1⟩ }) (fun r i B => B.length = i ∧ B ++ r = l) 0 [] rfl ⟨rfl, rfl⟩ rfl rfl rfl ?_ ?_
  · rintro B ⟨_, hB⟩
    refine fR rfl ?_
    refine Run.condF rfl rfl (by simp) ?_
    refine fR rfl ?_
    refine Run.fin rfl (EndOk.go ?_); exact .own (by rw [← hB]; simp)
  · rintro i x r B h1 hi hd ⟨hBl, hB⟩ ih
    refine fR rfl ?_
    refine Run.condT rfl rfl (by simp; omega) ?_
    refine fR rfl ?_
    refine Mid.elemMapC (Val.enc_eq x) rfl rfl rfl h1 rfl rfl ?_
    refine fM rfl ?_
    refine Mid.call (hc x (List.mem_of_getElem? h1)) rfl rfl rfl rfl ?_
    refine fM rfl ?_
    refine apM Val.enc B [x] rfl (congrArg (fun c => some (T.lst [c])) (Val.enc_eq x).symm) rfl rfl rfl ?_ (hl := fun x => (congrArg List.length (Val.enc_eq x)).trans rfl)
    refine fM rfl ?_
    refine aL rfl rfl rfl rfl rfl ?_
    refine fM rfl ?_
    exact rWeak 1 rfl (ih (B ++ [x]) ⟨by simp; omega, by rw [← hB]; simp⟩) rfl rfl rfl
theorem copy_ok (H : Pr P) : ∀ (k : Nat) (v : Val), SizeOf.sizeOf v ≤ k → v.Ok → FnOk P 100 [v.v] ⟨[], 0⟩ { v := v.v }
  | 0, v, h, _ => by cases v; simp at h
  | k + 1, v, h, ho => by
    refine FnOk.run H.i100 H.mixed rfl rfl ?_
    refine fR rfl ?_
    refine Mid.call (copies_ok H v.items ho.il (fun x hx => copy_ok H k x (by have := Val.size_items v hx; omega) (ho.it x hx))) rfl rfl rfl rfl ?_
    refine fM rfl ?_
    refine Mid.call (cloneS_ok H v.keys ho.kl) rfl rfl rfl rfl ?_
    refine fM rfl ?_
    refine Run.fin rfl (EndOk.go ?_); exact .le (.same rfl)
theorem valCopy_ok (H : Pr P) (v : Val) (ho : v.Ok) : FnOk P 100 [v.v] ⟨[], 0⟩ { v := v.v } := copy_ok H _ v (Nat.le_refl _) ho
end Go.GB.C43

/-
  A43D: contracts of chapters 43's functions: the reference's permissions.
-/
namespace Go.GB.C43
open Go.GB
set_option linter.unusedSimpArgs false
set_option linter.unusedVariables false
set_option maxRecDepth 100000
set_option maxHeartbeats 1000000
variable {P : Program}

def hasS (s : Str) : List Str → Bool
  | [] => false
  | x :: r => if (x == s) = true then true else hasS s r
theorem hasS_eq (s : Str) (l : List Str) : hasS s l = decide (s ∈ l) := by
  induction l with
  | nil => simp [hasS]
  | cons x r ih =>
    simp only [hasS]
    by_cases h : x = s
    · subst h; simp
    · have : ¬ s = x := fun e => h e.symm
      have h' : ¬ (x == s) = true := by simpa using h
      rw [if_neg h', ih]; simp [this]
theorem rIn_ok (H : Pr P) (l : List Str) (hl : l.length ≤ 140737488355328) (s : Str) : FnOk P 97 [.t (.lst (l.map sE)), .t (.str s)] ⟨[], 0⟩ { v := .t (.bool (decide (s ∈ l))) } := by
  rw [← hasS_eq]
  refine FnOk.run H.i97 H.mixed rfl rfl ?_
  refine fR rfl ?_
  refine rList l (fun i (_ : Unit) => { env := [(0, .t (.lst (l.map sE))), (1, .t (.str s)), (5, .t (.int .i64 i))], s := ⟨[], 0⟩ }) (fun r i _ => hasS s l = hasS s r) 0 () rfl rfl rfl rfl rfl ?_ ?_
  · intro _ hinv
    refine fR rfl ?_
    refine lM rfl rfl rfl ?_
    refine fM rfl ?_
    refine Run.condF rfl rfl (by simp) ?_
    refine fR rfl ?_
    refine Run.fin rfl (EndOk.go ?_); exact .t (by rw [hinv]; rfl)
  · intro i x r _ h1 hi hd hinv ih
    refine fR rfl ?_
    refine lM rfl rfl rfl ?_
    refine fM rfl ?_
    refine Run.condT rfl rfl (by simp; omega) ?_
    refine fR rfl ?_
    refine Mid.elemMap rfl rfl rfl h1 rfl rfl ?_
    refine fM rfl ?_
    refine Run.cond rfl rfl (fun h => ?_) (fun h => ?_)
    · refine fR rfl ?_
      refine Run.fin rfl (EndOk.go ?_); exact .t (by rw [hinv]; simp only [hasS]; rw [if_pos h])
    · refine fR rfl ?_
      refine aL rfl rfl rfl rfl rfl ?_
      refine fM rfl ?_
      have h' : ¬ (x == s) = true := by rw [h]; simp
      exact rWeak 0 rfl (ih () (by rw [hinv]; simp only [hasS]; rw [if_neg h'])) rfl rfl rfl

def permitR (l : List Dir) (u : User) : Bool :=
  if ((hasDir authS l || hasDir scopesS l) && !u.known) = true then false
  else if (!(dirArg scopesS allS l).isSome || ((dirArg scopesS allS l).getD Val.zero).kind != 5) = true then true
  else !(((dirArg scopesS allS l).getD Val.zero).items.any (badScope u))
theorem dirArg_none {n a : Str} : ∀ {l : List Dir}, hasDir n l = false → dirArg n a l = none
  | [], _ => rfl
  | d :: r, h => by
    simp only [hasDir] at h
    simp only [dirArg]
    by_cases hd : (d.name == n) = true
    · rw [if_pos hd] at h; cases h
    · rw [if_neg hd] at h ⊢; exact dirArg_none h
theorem permit_eq (l : List Dir) (u : User) : permitR l u = permits l u := by
  simp only [permitR, permits]
  cases ha : hasDir authS l <;> cases hs : hasDir scopesS l <;> cases hk : u.known
  all_goals (try (have hn := dirArg_none (a := allS) hs; simp [hn]; done))
  all_goals (try (simp; done))
  all_goals
    cases hd : dirArg scopesS allS l with
    | none => simp [Val.zero, Val.kind]
    | some v =>
      simp only [Option.getD_some, Option.isSome_some]
      cases hv : (v.kind != 5) <;> simp
theorem permit_ok (H : Pr P) (l : List Dir) (hl : l.length ≤ 140737488355328) (ho : ∀ d, d ∈ l → d.Ok) (u : User) (hu : u.scopes.length ≤ 140737488355328) : FnOk P 54 [.t (.lst (l.map Dir.enc)), u.v] ⟨[], 0⟩ { v := .t (.bool (permits l u)) } := by
  rw [← permit_eq]
  have hv := (argOk ho scopesS allS).il
  refine FnOk.run H.i54 H.mixed rfl rfl ?_
  refine fR rfl ?_
  refine Mid.call (rHas_ok H l hl authS) rfl rfl rfl rfl ?_
  refine fM rfl ?_
  refine caG rfl rfl (fun hg => ⟨_, rfl, rHas_ok H l hl scopesS, rfl⟩) rfl rfl ?_
  refine fM rfl ?_
  refine Run.cond rfl rfl (fun h1 => ?_) (fun h1 => ?_)
  · refine fR rfl ?_
    refine Run.fin rfl (EndOk.go ?_); exact .t (by simp only [permitR]; rw [if_pos (by simpa using h1)])
  · have h1' : ¬ ((hasDir authS l || hasDir scopesS l) && !u.known) = true := by
      intro e; simp at e h1; rcases e.1 with e1 | e1 <;> simp_all
    refine fR rfl ?_
    refine Mid.call (rArg_ok H l hl ho scopesS allS) rfl rfl rfl rfl ?_
    refine fM rfl ?_
    refine Run.cond rfl rfl (fun h2 => ?_) (fun h2 => ?_)
    · refine fR rfl ?_
      refine Run.fin rfl (EndOk.go ?_); exact .t (by simp only [permitR]; rw [if_neg h1', if_pos (by simpa using h2)])
    · have h2' : ¬ (!(dirArg scopesS allS l).isSome || ((dirArg scopesS allS l).getD Val.zero).kind != 5) = true := by
        intro e; simp at e h2; rcases e with e1 | e1 <;> simp_all
      have e : permitR l u = !(((dirArg scopesS allS l).getD Val.zero).items.any (badScope u)) := by simp only [permitR]; rw [if_neg h1', if_neg h2']
      rw [e]
      generalize (dirArg scopesS allS l).getD Val.zero = v at hv
      refine fR rfl ?_
      refine rList v.items (fun i (_ : Unit) => { env := [(3, .ptr 0 0), (5, .ptr 1 0), (7, .t (.int .i64 i))], s := ⟨[(0, .cells [.t (.bool u.known), .t (.lst (u.scopes.map sE))]), (1, .cells [.t (.int .i64 v.kind), .t (.int .i64 v.int), .t (.str v.text), .t (.lst (v.items.map Val.enc)), .t (.lst (v.keys.map sE))])], 2⟩ }) (fun r i _ => v.items.any (badScope u) = r.any (badScope u)) 2 () rfl rfl rfl rfl rfl ?_ ?_
      · intro _ hinv
        refine fR rfl ?_
        refine lM rfl rfl rfl ?_
        refine fM rfl ?_
        refine Run.condF rfl rfl (by simp) ?_
        refine fR rfl ?_
        refine Run.fin rfl (EndOk.go ?_); exact .t (by rw [hinv]; rfl)
      · intro i x r _ h1 hi hd hinv ih
        refine fR rfl ?_
        refine lM rfl rfl rfl ?_
        refine fM rfl ?_
        refine Run.condT rfl rfl (by simp; omega) ?_
        refine fR rfl ?_
        refine Mid.elemMapC (Val.enc_eq x) rfl rfl rfl h1 rfl rfl ?_
        refine fM rfl ?_
        refine Mid.elemMapCG (Val.enc_eq x) rfl rfl rfl rfl h1 rfl (by (repeat' (first | exact trivial | exact Bool.not_or_self _ | exact grd1 _ | exact grd2 _ | exact grd3 _ _ | exact grd4 _ _ | refine And.intro ?_ ?_ | exact rfl | (simp; done) | (simp <;> omega))); done) (by (repeat' (first | exact trivial | exact Bool.not_or_self _ | exact grd1 _ | exact grd2 _ | exact grd3 _ _ | exact grd4 _ _ | refine And.intro ?_ ?_ | exact rfl | (simp; done) | (simp <;> omega))); done) rfl ?_
        refine fM rfl ?_
        refine caG rfl rfl (fun hg => ⟨_, rfl, rIn_ok H u.scopes hu x.text, rfl⟩) rfl rfl ?_
        refine fM rfl ?_
        refine Run.cond rfl rfl (fun hc => ?_) (fun hc => ?_)
        · refine fR rfl ?_
          have hb : badScope u x = true := hc
          refine Run.fin rfl (EndOk.go ?_); exact .t (by rw [hinv]; simp [hb])
        · refine fR rfl ?_
          refine aL rfl rfl rfl rfl rfl ?_
          refine fM rfl ?_
          have hb : badScope u x = false := hc
          exact rWeak 2 rfl (ih () (by rw [hinv]; simp [hb])) rfl rfl rfl
theorem rType_ok (H : Pr P) (ds : List Def) (ho : DocOk ds) (n : Str) (u : User) (hu : u.scopes.length ≤ 140737488355328) : FnOk P 18 [docV ds, .t (.str n), u.v] ⟨[], 0⟩ { v := .t (.bool (typeP ds n u)) } := by
  have hd := defOk ho n
  refine FnOk.run H.i18 H.mixed rfl rfl ?_
  refine fR rfl ?_
  refine Mid.call (rFind_ok H ds ho.l n) rfl rfl rfl rfl ?_
  refine fM rfl ?_
  refine caG rfl rfl (fun hg => ⟨_, rfl, permit_ok H _ hd.dl hd.d u hu, rfl⟩) rfl rfl ?_
  refine fM rfl ?_
  refine Run.fin rfl (EndOk.go ?_); exact .t (by simp [typeP])
theorem rMay_ok (H : Pr P) (ds : List Def) (ho : DocOk ds) (on f : Str) (u : User) (hu : u.scopes.length ≤ 140737488355328) : FnOk P 16 [docV ds, .t (.str on), .t (.str f), u.v] ⟨[], 0⟩ { v := .t (.bool (mayP ds u on f)) } := by
  have hd := defOk ho on
  have hf := fieldOk hd f
  refine FnOk.run H.i16 H.mixed rfl rfl ?_
  refine fR rfl ?_
  refine Mid.call (rType_ok H ds ho on u hu) rfl rfl rfl rfl ?_
  refine fM rfl ?_
  refine Run.cond rfl rfl (fun h => ?_) (fun h => ?_)
  · refine fR rfl ?_
    refine Run.fin rfl (EndOk.go ?_); exact .t (by simp only [mayP]; rw [if_pos h])
  · have h' : ¬ (!typeP ds on u) = true := by rw [h]; simp
    refine fR rfl ?_
    refine Mid.call (rFind_ok H ds ho.l on) rfl rfl rfl rfl ?_
    refine fM rfl ?_
    refine Mid.call (rFieldOf_ok H _ hd.fl f) rfl rfl rfl rfl ?_
    refine fM rfl ?_
    refine caG rfl rfl (fun hg => ⟨_, rfl, permit_ok H _ hf.l hf.d u hu, rfl⟩) rfl rfl ?_
    refine fM rfl ?_
    refine caG rfl rfl (fun hg => ⟨_, rfl, rType_ok H ds ho _ u hu, rfl⟩) rfl rfl ?_
    refine fM rfl ?_
    refine Run.fin rfl (EndOk.go ?_); exact .t (by simp only [mayP]; rw [if_neg h'])
end Go.GB.C43

/-
  A43E: contracts of chapters 43's functions: filters.
-/
namespace Go.GB.C43
open Go.GB
set_option linter.unusedSimpArgs false
set_option linter.unusedVariables false
set_option maxRecDepth 100000
set_option maxHeartbeats 2000000
variable {P : Program}

theorem cloneHO_ok (H : Pr P) (l : List Hop) (hl : l.length * 32 ≤ 140737488355328) : FnOk P 120 [.t (.lst (l.map Hop.enc))] ⟨[], 0⟩ { v := .own 0 2 (l.map Hop.enc), ob := [(0, .arr l.length)], n := 1 } := by
  refine FnOk.run H.i120 H.mixed rfl rfl ?_
  refine fR rfl ?_
  refine p0 rfl ?_
  refine fM rfl ?_
  refine Run.condU rfl rfl (fun h => ?_) (fun _ => ?_)
  · have hn : l = [] := by
      cases l with
      | nil => rfl
      | cons x r =>
        have := h (Hop.enc x) (by simp)
        simp [Hop.enc] at this
    subst hn
    refine Run.region rfl rfl ?_
    refine Mid.val (v := .nils) (ps := []) rfl rfl trivial rfl ?_
    refine Mid.done0 rfl ?_
    refine Run.weakRet (st' := { env := [(2, .own 0 2 [])], s := ⟨[(0, .arr 0)], 1⟩ }) 0 ?_ rfl rfl rfl (by repeat' (first | exact trivial | exact LeX.t | exact LeX.top | exact LeX.nilOwn (Nat.le_of_ble_eq_true rfl) (Nat.le_of_ble_eq_true rfl) | exact LeX.ownT | exact LeX.nilT | exact LeX.same rfl | exact LeX.tEq (by simp) | exact LeX.ownEq (by simp) (Nat.le_of_ble_eq_true rfl) | exact LeX.tEq (by congr 1 <;> omega) | exact Or.inr ⟨Nat.le_of_ble_eq_true rfl, Nat.le_of_ble_eq_true rfl, rfl⟩ | refine Or.inl ⟨Nat.le_of_ble_eq_true rfl, _, rfl, ?_⟩ | refine LeO.cells ?_ | exact LeO.arr rfl | exact LeO.arr (by simp) | exact LeO.mE (by first | rfl | simp) (by first | exact Or.inl rfl | exact Or.inr rfl) | exact LeO.cE (by first | rfl | simp) | exact LeXs.cE (by first | rfl | simp) | refine LeO.map (by first | rfl | simp) ?_ (by first | exact Or.inl rfl | exact Or.inr rfl) | refine LeXs.cons ?_ ?_ | exact LeXs.nil | refine And.intro ?_ ?_)) (by repeat' (first | exact trivial | exact LeX.t | exact LeX.top | exact LeX.nilOwn (Nat.le_of_ble_eq_true rfl) (Nat.le_of_ble_eq_true rfl) | exact LeX.ownT | exact LeX.nilT | exact LeX.same rfl | exact LeX.tEq (by simp) | exact LeX.ownEq (by simp) (Nat.le_of_ble_eq_true rfl) | exact LeX.tEq (by congr 1 <;> omega) | exact Or.inr ⟨Nat.le_of_ble_eq_true rfl, Nat.le_of_ble_eq_true rfl, rfl⟩ | refine Or.inl ⟨Nat.le_of_ble_eq_true rfl, _, rfl, ?_⟩ | refine LeO.cells ?_ | exact LeO.arr rfl | exact LeO.arr (by simp) | exact LeO.mE (by first | rfl | simp) (by first | exact Or.inl rfl | exact Or.inr rfl) | exact LeO.cE (by first | rfl | simp) | exact LeXs.cE (by first | rfl | simp) | refine LeO.map (by first | rfl | simp) ?_ (by first | exact Or.inl rfl | exact Or.inr rfl) | refine LeXs.cons ?_ ?_ | exact LeXs.nil | refine And.intro ?_ ?_))
    refine EndOk.chg rfl rfl (.le (.same rfl)) ?_
    exact (by repeat' (first | exact trivial | exact LeX.t | exact LeX.top | exact LeX.nilOwn (Nat.le_of_ble_eq_true rfl) (Nat.le_of_ble_eq_true rfl) | exact LeX.ownT | exact LeX.nilT | exact LeX.same rfl | exact LeX.tEq (by simp) | exact LeX.ownEq (by simp) (Nat.le_of_ble_eq_true rfl) | exact LeX.tEq (by congr 1 <;> omega) | exact Or.inr ⟨Nat.le_of_ble_eq_true rfl, Nat.le_of_ble_eq_true rfl, rfl⟩ | refine Or.inl ⟨Nat.le_of_ble_eq_true rfl, _, rfl, ?_⟩ | refine LeO.cells ?_ | exact LeO.arr rfl | exact LeO.arr (by simp) | exact LeO.mE (by first | rfl | simp) (by first | exact Or.inl rfl | exact Or.inr rfl) | exact LeO.cE (by first | rfl | simp) | exact LeXs.cE (by first | rfl | simp) | refine LeO.map (by first | rfl | simp) ?_ (by first | exact Or.inl rfl | exact Or.inr rfl) | refine LeXs.cons ?_ ?_ | exact LeXs.nil | refine And.intro ?_ ?_))
  · refine fR rfl ?_
    refine apN Hop.enc l rfl rfl rfl ?_ (h1 := hl) (h2 := by omega)
    refine fM rfl ?_
    refine Run.fin rfl (EndOk.chg rfl rfl ?_ ?_)
    · exact .le (.same rfl)
    · exact (by repeat' (first | exact trivial | exact LeX.t | exact LeX.top | exact LeX.nilOwn (Nat.le_of_ble_eq_true rfl) (Nat.le_of_ble_eq_true rfl) | exact LeX.ownT | exact LeX.nilT | exact LeX.same rfl | exact LeX.tEq (by simp) | exact LeX.ownEq (by simp) (Nat.le_of_ble_eq_true rfl) | exact LeX.tEq (by congr 1 <;> omega) | exact Or.inr ⟨Nat.le_of_ble_eq_true rfl, Nat.le_of_ble_eq_true rfl, rfl⟩ | refine Or.inl ⟨Nat.le_of_ble_eq_true rfl, _, rfl, ?_⟩ | refine LeO.cells ?_ | exact LeO.arr rfl | exact LeO.arr (by simp) | exact LeO.mE (by first | rfl | simp) (by first | exact Or.inl rfl | exact Or.inr rfl) | exact LeO.cE (by first | rfl | simp) | exact LeXs.cE (by first | rfl | simp) | refine LeO.map (by first | rfl | simp) ?_ (by first | exact Or.inl rfl | exact Or.inr rfl) | refine LeXs.cons ?_ ?_ | exact LeXs.nil | refine And.intro ?_ ?_))

theorem below_ok (H : Pr P) (l : List Hop) (hl : l.length ≤ 100000) (on key : Str) : FnOk P 98 [.t (.lst (l.map Hop.enc)), .t (.str on), .t (.str key)] ⟨[], 0⟩ { v := .t (.lst ((l ++ [(⟨on, key⟩ : Hop)]).map Hop.enc)) } := by
  refine FnOk.run H.i98 H.mixed rfl rfl ?_
  refine fR rfl ?_
  refine Mid.callR [] (cloneHO_ok H l (by omega)) rfl rfl rfl rfl rfl (by repeat' (first | exact trivial | exact rfl | refine And.intro ?_ ?_ | exact (congrArg some (AObj.ren_mE _ _ _ _ _ _)).symm | exact (congrArg some (AObj.ren_cE _ _ _)).symm)) rfl rfl (ob' := [(0, .arr l.length)]) (rfl) rfl rfl ?_
  refine fM rfl ?_
  refine apM Hop.enc l [(⟨on, key⟩ : Hop)] rfl rfl rfl rfl rfl ?_
  refine fM rfl ?_
  refine Run.fin rfl (EndOk.go ?_); exact .own rfl
theorem with_ok (H : Pr P) (l : List Hop) (hl : l.length ≤ 100000) (on key : Str) : FnOk P 101 [.t (.lst (l.map Hop.enc)), .t (.str on), .t (.str key)] ⟨[], 0⟩ { v := .t (.lst ((l ++ [(⟨on, key⟩ : Hop)]).map Hop.enc)) } := by
  refine FnOk.run H.i101 H.mixed rfl rfl ?_
  refine fR rfl ?_
  refine apN Hop.enc l rfl rfl rfl ?_ (h1 := by omega) (h2 := by omega)
  refine fM rfl ?_
  refine apM Hop.enc l [(⟨on, key⟩ : Hop)] rfl rfl rfl rfl rfl ?_
  refine fM rfl ?_
  refine Run.fin rfl (EndOk.go ?_); exact .own rfl

theorem cnt_le {p : Pick} : ∀ {l : List Pick}, p ∈ l → p.cnt ≤ Pick.cnts l
  | [], h => by cases h
  | x :: r, h => by
    simp only [Pick.cnts]
    cases h with
    | head => omega
    | tail _ h => have := cnt_le h; omega

def FilterC (P : Program) (f : Nat) (ds : List Def) (u : User) (l : List Pick) (path : List Hop) : Prop :=
  FnOk P f [docV ds, .t (.lst (l.map Pick.enc)), u.v, .t (.lst (path.map Hop.enc))] ⟨[], 0⟩ { v := .tup [.t (.lst ((Pick.filts (mayP ds u) l path).1.map Pick.enc)), .t (.lst ((Pick.filts (mayP ds u) l path).2.map pE))] }
theorem filter_step (H : Pr P) (ds : List Def) (ho : DocOk ds) (u : User) (hu : u.scopes.length ≤ 140737488355328) (l : List Pick) (path : List Hop) (hO : ∀ p, p ∈ l → p.Ok) (hn : Pick.cnts l + path.length ≤ 10000)
    (hrec : ∀ (l' : List Pick) (path' : List Hop), Pick.cnts l' < Pick.cnts l → (∀ p, p ∈ l' → p.Ok) → Pick.cnts l' + path'.length ≤ 10000 → FilterC P 55 ds u l' path') : FilterC P 55 ds u l path := by
  have hll := Pick.cnts_len l
  unfold FilterC
  refine FnOk.run H.i55 H.mixed rfl rfl ?_
  refine fR rfl ?_
  refine lM rfl rfl rfl ?_
  refine fM rfl ?_
  refine rList l (fun i (B : List Pick × List (List Hop)) => { env := [(3, .t (.lst (path.map Hop.enc))), (4, .ptr 0 0), (6, .ptr 1 0), (10, .own 2 9 (B.1.map Pick.enc)), (11, .own 3 1 (B.2.map pE)), (19, .t (.lst (l.map Pick.enc))), (20, .t (.int .i64 l.length)), (21, .t (.int .i64 i))], s := ⟨[(0, .cells [.t (.lst (ds.map Def.enc))]), (1, .cells [.t (.bool u.known), .t (.lst (u.scopes.map sE))]), (2, .arr B.1.length), (3, .arr B.2.length)], 4⟩ }) (fun r i B => B.1.length ≤ i ∧ B.2.length + Pick.cnts r ≤ Pick.cnts l ∧ Pick.filts (mayP ds u) l path = (B.1 ++ (Pick.filts (mayP ds u) r path).1, B.2 ++ (Pick.filts (mayP ds u) r path).2)) 2 ([], []) rfl ⟨by simp, by simp, by simp⟩ rfl rfl rfl ?_ ?_
  · rintro ⟨B1, B2⟩ ⟨_, _, hB⟩
    refine fR rfl ?_
    refine Run.condF rfl rfl (by simp) ?_
    refine fR rfl ?_
    rw [hB]
    refine Run.fin rfl (EndOk.go ?_); exact .tup2 (.own (by simp [Pick.filts])) (.own (by simp [Pick.filts]))
  · rintro i x r ⟨B1, B2⟩ h1 hi hd ⟨hB1, hB2, hB⟩ ih
    have hxm := List.mem_of_getElem? h1
    have hx := hO x hxm
    have hxc := cnt_le hxm
    have hce := Pick.cnt_eq x
    have hB1' : B1.length ≤ i := hB1
    have hB2' : B2.length + (x.cnt + Pick.cnts r) ≤ Pick.cnts l := hB2
    refine fR rfl ?_
    refine Run.condT rfl rfl (by simp; omega) ?_
    refine fR rfl ?_
    refine Mid.elemMapC (Pick.enc_eq x) rfl rfl rfl h1 rfl rfl ?_
    refine fM rfl ?_
    refine Mid.call (below_ok H path (by omega) x.on x.key) rfl rfl rfl rfl ?_
    refine fM rfl ?_
    refine Mid.call (may_ok H ds ho x.on x.name u hu) rfl rfl rfl rfl ?_
    refine fM rfl ?_
    refine Run.cond rfl rfl (fun hm => ?_) (fun hm => ?_)
    · have hm' : mayP ds u x.on x.name = false := by simpa using hm
      refine fR rfl ?_
      refine apM pE B2 [path ++ [⟨x.on, x.key⟩]] rfl rfl rfl rfl rfl ?_
      refine fM rfl ?_
      refine aL rfl rfl rfl rfl rfl ?_
      refine fM rfl ?_
      exact rWeak 4 rfl (ih (B1, B2 ++ [path ++ [⟨x.on, x.key⟩]]) ⟨by simp; omega, by simp; omega, by rw [hB]; simp [Pick.filts, Pick.filt_eq, hm']⟩) rfl rfl rfl
    · have hm' : mayP ds u x.on x.name = true := by simpa using hm
      have hR := (Pick.filts_gone (mayP ds u) (SizeOf.sizeOf x.picks)).2 x.picks (path ++ [⟨x.on, x.key⟩]) (Nat.le_refl _)
      have hrc := hrec x.picks (path ++ [⟨x.on, x.key⟩]) (by omega) hx.p (by simp; omega)
      unfold FilterC at hrc
      have hB' : Pick.filts (mayP ds u) l path = (B1 ++ [x.withPicks (Pick.filts (mayP ds u) x.picks (path ++ [⟨x.on, x.key⟩])).1] ++ (Pick.filts (mayP ds u) r path).1, B2 ++ (Pick.filts (mayP ds u) x.picks (path ++ [⟨x.on, x.key⟩])).2 ++ (Pick.filts (mayP ds u) r path).2) := by
        rw [hB]; simp [Pick.filts, Pick.filt_eq, hm']
      generalize Pick.filts (mayP ds u) x.picks (path ++ [⟨x.on, x.key⟩]) = G at hR hrc hB'
      refine fR rfl ?_
      refine Mid.call (cloneI_ok H x.ty.wraps hx.t.l) rfl rfl rfl rfl ?_
      refine fM rfl ?_
      refine lM rfl rfl rfl ?_
      refine fM rfl ?_
      refine rList x.args (fun j (C : List Arg) => { env := [(3, .t (.lst (path.map Hop.enc))), (4, .ptr 0 0), (6, .ptr 1 0), (10, .own 2 9 (B1.map Pick.enc)), (11, .own 3 1 (B2.map pE)), (13, .ptr 4 0), (14, .t (.lst ((path ++ [(⟨x.on, x.key⟩ : Hop)]).map Hop.enc))), (15, .ptr 5 0), (19, .t (.lst (l.map Pick.enc))), (20, .t (.int .i64 l.length)), (21, .t (.int .i64 i)), (52, .t (.lst (x.args.map Arg.enc))), (53, .t (.int .i64 x.args.length)), (54, .t (.int .i64 j))], s := ⟨[(0, .cells [.t (.lst (ds.map Def.enc))]), (1, .cells [.t (.bool u.known), .t (.lst (u.scopes.map sE))]), (2, .arr B1.length), (3, .arr B2.length), (4, .cells [.t (.str x.key), .t (.str x.on), .t (.str x.name), .t (.lst (x.args.map Arg.enc)), .t (.str x.ty.name), .t (.lst (x.ty.wraps.map nE)), .t (.str x.label), .t (.int .i64 x.initial), .t (.lst (x.picks.map Pick.enc))]), (5, .cells [.t (.str x.key), .t (.str x.on), .t (.str x.name), .own 6 6 (C.map Arg.enc), .t (.str x.ty.name), .t (.lst (x.ty.wraps.map nE)), .t (.str x.label), .t (.int .i64 x.initial), .t (.lst (x.picks.map Pick.enc))]), (6, .arr C.length)], 7⟩ }) (fun r j C => C.length = j ∧ C ++ r = x.args) 6 [] rfl ⟨rfl, rfl⟩ rfl rfl rfl ?_ ?_
      · rintro C ⟨_, hC⟩
        obtain rfl : C = x.args := by simpa using hC
        refine fR rfl ?_
        refine Run.condF rfl rfl (by simp) ?_
        refine fR rfl ?_
        refine Mid.call (hrc) rfl rfl rfl rfl ?_
        refine fM rfl ?_
        refine apM Pick.enc B1 [(x.withPicks G.1)] rfl (congrArg (fun c => some (T.lst [c])) (Pick.enc_eq (x.withPicks G.1)).symm) rfl rfl rfl ?_ (hl := fun x => (congrArg List.length (Pick.enc_eq x)).trans rfl)
        refine fM rfl ?_
        refine apM pE B2 G.2 rfl rfl rfl rfl rfl ?_ (h1 := by omega) (h2 := by omega)
        refine fM rfl ?_
        refine aL rfl rfl rfl rfl rfl ?_
        refine fM rfl ?_
        exact rWeak 4 rfl (ih (B1 ++ [x.withPicks G.1], B2 ++ G.2) ⟨by simp; omega, by simp; omega, by rw [hB']⟩) rfl rfl rfl
      · rintro j a r' C ha hj hjd ⟨hCl, hC⟩ ihj
        have hal := hx.al
        refine fR rfl ?_
        refine Run.condT rfl rfl (by simp; omega) ?_
        refine fR rfl ?_
        refine Mid.elemMap rfl rfl rfl ha rfl rfl ?_
        refine fM rfl ?_
        refine Mid.call (valCopy_ok H a.val (hx.aa a (List.mem_of_getElem? ha))) rfl rfl rfl rfl ?_
        refine fM rfl ?_
        refine apM Arg.enc C [a] rfl rfl rfl rfl rfl ?_
        refine fM rfl ?_
        refine aL rfl rfl rfl rfl rfl ?_
        refine fM rfl ?_
        exact rWeak 7 rfl (ihj (C ++ [a]) ⟨by simp; omega, by rw [← hC]; simp⟩) rfl rfl rfl
theorem filter_ok (H : Pr P) (ds : List Def) (ho : DocOk ds) (u : User) (hu : u.scopes.length ≤ 140737488355328) : ∀ (k : Nat) (l : List Pick) (path : List Hop), Pick.cnts l < k → (∀ p, p ∈ l → p.Ok) → Pick.cnts l + path.length ≤ 10000 → FilterC P 55 ds u l path
  | 0, l, path, h, _, _ => by omega
  | k + 1, l, path, h, hO, hn => filter_step H ds ho u hu l path hO hn fun l' path' hl' hO' hn' => filter_ok H ds ho u hu k l' path' (by omega) hO' hn'
theorem filterT_ok (H : Pr P) (ds : List Def) (ho : DocOk ds) (u : User) (hu : u.scopes.length ≤ 140737488355328) (l : List Pick) (hO : ∀ p, p ∈ l → p.Ok) (hn : Pick.cnts l ≤ 10000) :
    FnOk P 19 [docV ds, .t (.lst (l.map Pick.enc)), u.v] ⟨[], 0⟩ { v := .tup [.t (.lst ((Pick.filts (mayP ds u) l []).1.map Pick.enc)), .t (.lst ((Pick.filts (mayP ds u) l []).2.map pE))] } := by
  have h := filter_ok H ds ho u hu _ l [] (Nat.lt_succ_self _) hO (by simpa using hn)
  unfold FilterC at h
  refine FnOk.run H.i19 H.mixed rfl rfl ?_
  refine fR rfl ?_
  refine Mid.call (h) rfl rfl rfl rfl ?_
  refine fM rfl ?_
  refine Run.fin rfl (EndOk.go ?_); exact .tup2 (.t rfl) (.t rfl)

theorem rFilter_step (H : Pr P) (ds : List Def) (ho : DocOk ds) (u : User) (hu : u.scopes.length ≤ 140737488355328) (l : List Pick) (path : List Hop) (hO : ∀ p, p ∈ l → p.Ok) (hn : Pick.cnts l + path.length ≤ 10000)
    (hrec : ∀ (l' : List Pick) (path' : List Hop), Pick.cnts l' < Pick.cnts l → (∀ p, p ∈ l' → p.Ok) → Pick.cnts l' + path'.length ≤ 10000 → FilterC P 56 ds u l' path') : FilterC P 56 ds u l path := by
  have hll := Pick.cnts_len l
  unfold FilterC
  refine FnOk.run H.i56 H.mixed rfl rfl ?_
  refine fR rfl ?_
  refine rList l (fun i (B : List Pick × List (List Hop)) => { env := [(1, .t (.lst (l.map Pick.enc))), (3, .t (.lst (path.map Hop.enc))), (4, .ptr 0 0), (6, .ptr 1 0), (10, .own 2 9 (B.1.map Pick.enc)), (11, .own 3 1 (B.2.map pE)), (12, .t (.int .i64 i))], s := ⟨[(0, .cells [.t (.lst (ds.map Def.enc))]), (1, .cells [.t (.bool u.known), .t (.lst (u.scopes.map sE))]), (2, .arr B.1.length), (3, .arr B.2.length)], 4⟩ }) (fun r i B => B.1.length ≤ i ∧ B.2.length + Pick.cnts r ≤ Pick.cnts l ∧ Pick.filts (mayP ds u) l path = (B.1 ++ (Pick.filts (mayP ds u) r path).1, B.2 ++ (Pick.filts (mayP ds u) r path).2)) 2 ([], []) rfl ⟨by simp, by simp, by simp⟩ rfl rfl rfl ?_ ?_
  · rintro ⟨B1, B2⟩ ⟨_, _, hB⟩
    refine fR rfl ?_
    refine lM rfl rfl rfl ?_
    refine fM rfl ?_
    refine Run.condF rfl rfl (by simp) ?_
    refine fR rfl ?_
    rw [hB]
    refine Run.fin rfl (EndOk.go ?_); exact .tup2 (.own (by simp [Pick.filts])) (.own (by simp [Pick.filts]))
  · rintro i x r ⟨B1, B2⟩ h1 hi hd ⟨hB1, hB2, hB⟩ ih
    have hxm := List.mem_of_getElem? h1
    have hx := hO x hxm
    have hxc := cnt_le hxm
    have hce := Pick.cnt_eq x
    have hB1' : B1.length ≤ i := hB1
    have hB2' : B2.length + (x.cnt + Pick.cnts r) ≤ Pick.cnts l := hB2
    refine fR rfl ?_
    refine lM rfl rfl rfl ?_
    refine fM rfl ?_
    refine Run.condT rfl rfl (by simp; omega) ?_
    refine fR rfl ?_
    refine Mid.elemMapC (Pick.enc_eq x) rfl rfl rfl h1 rfl rfl ?_
    refine fM rfl ?_
    refine Mid.call (with_ok H path (by omega) x.on x.key) rfl rfl rfl rfl ?_
    refine fM rfl ?_
    refine Mid.call (rMay_ok H ds ho x.on x.name u hu) rfl rfl rfl rfl ?_
    refine fM rfl ?_
    refine Run.cond rfl rfl (fun hm => ?_) (fun hm => ?_)
    · have hm' : mayP ds u x.on x.name = false := by simpa using hm
      refine fR rfl ?_
      refine apM pE B2 [path ++ [⟨x.on, x.key⟩]] rfl rfl rfl rfl rfl ?_
      refine fM rfl ?_
      refine aL rfl rfl rfl rfl rfl ?_
      refine fM rfl ?_
      exact rWeak 4 rfl (ih (B1, B2 ++ [path ++ [⟨x.on, x.key⟩]]) ⟨by simp; omega, by simp; omega, by rw [hB]; simp [Pick.filts, Pick.filt_eq, hm']⟩) rfl rfl rfl
    · have hm' : mayP ds u x.on x.name = true := by simpa using hm
      have hR := (Pick.filts_gone (mayP ds u) (SizeOf.sizeOf x.picks)).2 x.picks (path ++ [⟨x.on, x.key⟩]) (Nat.le_refl _)
      have hrc := hrec x.picks (path ++ [⟨x.on, x.key⟩]) (by omega) hx.p (by simp; omega)
      unfold FilterC at hrc
      have hB' : Pick.filts (mayP ds u) l path = (B1 ++ [x.withPicks (Pick.filts (mayP ds u) x.picks (path ++ [⟨x.on, x.key⟩])).1] ++ (Pick.filts (mayP ds u) r path).1, B2 ++ (Pick.filts (mayP ds u) x.picks (path ++ [⟨x.on, x.key⟩])).2 ++ (Pick.filts (mayP ds u) r path).2) := by
        rw [hB]; simp [Pick.filts, Pick.filt_eq, hm']
      generalize Pick.filts (mayP ds u) x.picks (path ++ [⟨x.on, x.key⟩]) = G at hR hrc hB'
      refine fR rfl ?_
      refine Mid.call (hrc) rfl rfl rfl rfl ?_
      refine fM rfl ?_
      refine apM Pick.enc B1 [(x.withPicks G.1)] rfl (congrArg (fun c => some (T.lst [c])) (Pick.enc_eq (x.withPicks G.1)).symm) rfl rfl rfl ?_ (hl := fun x => (congrArg List.length (Pick.enc_eq x)).trans rfl)
      refine fM rfl ?_
      refine apM pE B2 G.2 rfl rfl rfl rfl rfl ?_ (h1 := by omega) (h2 := by omega)
      refine fM rfl ?_
      refine aL rfl rfl rfl rfl rfl ?_
      refine fM rfl ?_
      exact rWeak 4 rfl (ih (B1 ++ [x.withPicks G.1], B2 ++ G.2) ⟨by simp; omega, by simp; omega, by rw [hB']⟩) rfl rfl rfl
theorem rFilter_ok (H : Pr P) (ds : List Def) (ho : DocOk ds) (u : User) (hu : u.scopes.length ≤ 140737488355328) : ∀ (k : Nat) (l : List Pick) (path : List Hop), Pick.cnts l < k → (∀ p, p ∈ l → p.Ok) → Pick.cnts l + path.length ≤ 10000 → FilterC P 56 ds u l path
  | 0, l, path, h, _, _ => by omega
  | k + 1, l, path, h, hO, hn => rFilter_step H ds ho u hu l path hO hn fun l' path' hl' hO' hn' => rFilter_ok H ds ho u hu k l' path' (by omega) hO' hn'
theorem rFilterT_ok (H : Pr P) (ds : List Def) (ho : DocOk ds) (u : User) (hu : u.scopes.length ≤ 140737488355328) (l : List Pick) (hO : ∀ p, p ∈ l → p.Ok) (hn : Pick.cnts l ≤ 10000) :
    FnOk P 20 [docV ds, .t (.lst (l.map Pick.enc)), u.v] ⟨[], 0⟩ { v := .tup [.t (.lst ((Pick.filts (mayP ds u) l []).1.map Pick.enc)), .t (.lst ((Pick.filts (mayP ds u) l []).2.map pE))] } := by
  have h := rFilter_ok H ds ho u hu _ l [] (Nat.lt_succ_self _) hO (by simpa using hn)
  unfold FilterC at h
  refine FnOk.run H.i20 H.mixed rfl rfl ?_
  refine fR rfl ?_
  refine Mid.call (h) rfl rfl rfl rfl ?_
  refine fM rfl ?_
  refine Run.fin rfl (EndOk.go ?_); exact .tup2 (.t rfl) (.t rfl)
end Go.GB.C43

/-
  A43F: contracts of chapters 43's functions: fields of values, paths.
-/
namespace Go.GB.C43
open Go.GB
set_option linter.unusedSimpArgs false
set_option linter.unusedVariables false
set_option maxRecDepth 100000
set_option maxHeartbeats 2000000
variable {P : Program}

/-- the item at a key -/
def getK (its : List Val) (k : Str) : List Str → Nat → Option Val
  | [], _ => none
  | x :: r, i => if (x == k) = true then its[i]? else getK its k r (i + 1)
def getV (v : Val) (k : Str) : Option Val := if (v.kind != 6) = true then none else getK v.items k v.keys 0
theorem getK_mem {its : List Val} {k : Str} {x : Val} : ∀ {l : List Str} {i : Nat}, getK its k l i = some x → x ∈ its
  | [], i, h => by simp [getK] at h
  | y :: r, i, h => by
    simp only [getK] at h
    split at h
    · exact List.mem_of_getElem? h
    · exact getK_mem h
theorem getV_mem {v : Val} {k : Str} {x : Val} (h : getV v k = some x) : x ∈ v.items := by
  simp only [getV] at h
  split at h
  · cases h
  · exact getK_mem h
theorem index_getK (its : List Val) (k : Str) : ∀ (l : List Str) (i : Nat), (indexS k l i = -1 ∧ getK its k l i = none) ∨ ∃ j : Nat, indexS k l i = j ∧ getK its k l i = its[j]?
  | [], i => Or.inl ⟨rfl, rfl⟩
  | x :: r, i => by
    simp only [indexS, getK]
    by_cases h : k = x
    · subst h; exact Or.inr ⟨i, by simp, by simp⟩
    · have h1 : ¬ (k == x) = true := by simpa using h
      have h2 : ¬ (x == k) = true := by simpa using fun e => h e.symm
      rw [if_neg h1, if_neg h2]
      exact index_getK its k r (i + 1)

theorem get_ok (H : Pr P) (v : Val) (ho : v.Ok) (k : Str) : FnOk P 84 [v.v, .t (.str k)] ⟨[], 0⟩ { v := .tup [((getV v k).getD Val.zero).v, .t (.bool (getV v k).isSome)] } := by
  have hkl := ho.kl
  have hil := ho.il
  have hidx := index_getK v.items k v.keys 0
  refine FnOk.run H.i84 H.mixed rfl rfl ?_
  refine fR rfl ?_
  refine Mid.call (index_ok H v.keys (by omega) k) rfl rfl rfl rfl ?_
  refine fM rfl ?_
  refine lMG rfl rfl rfl rfl ?_
  refine fM rfl ?_
  refine Run.cond rfl rfl (fun h => ?_) (fun h => ?_)
  · have e : getV v k = none := by
      simp only [getV]
      by_cases hk : (v.kind != 6) = true
      · rw [if_pos hk]
      · rw [if_neg hk]
        rcases hidx with ⟨a, b⟩ | ⟨j, a, b⟩
        · exact b
        · have a' : indexS k v.keys 0 = j := a
          rw [a'] at h
          simp at h hk
          rw [b]
          simp; omega
    rw [e]
    refine fR rfl ?_
    refine Run.fin rfl (EndOk.go ?_); exact .tup2 (.agg (.cons (.t rfl) (.cons (.t rfl) (.cons (.t rfl) (.cons (.nil rfl) (.cons (.nil rfl) .nil)))))) (.t rfl)
  · have h' : v.kind = 6 ∧ 0 ≤ indexS k v.keys 0 ∧ indexS k v.keys 0 < v.items.length := by
      simp at h; omega
    obtain ⟨j, hj⟩ := Int.eq_ofNat_of_zero_le h'.2.1
    have hjl : j < v.items.length := by have := h'.2.2; omega
    have hx : v.items[j]? = some v.items[j] := List.getElem?_eq_getElem hjl
    have e : getV v k = some v.items[j] := by
      simp only [getV, h'.1]
      rcases hidx with ⟨a, b⟩ | ⟨j', a, b⟩
      · have a' : indexS k v.keys 0 = -1 := a
        omega
      · have a' : indexS k v.keys 0 = j' := a
        have : j' = j := by omega
        subst this
        rw [b, hx]; rfl
    have hxo := ho.it _ (List.mem_of_getElem? hx)
    rw [e]
    generalize v.items[j] = x at hx hxo
    simp only [hj]
    refine fR rfl ?_
    refine Mid.elemMapC (Val.enc_eq x) rfl rfl rfl hx rfl rfl ?_
    refine fM rfl ?_
    refine Mid.call (valCopy_ok H x hxo) rfl rfl rfl rfl ?_
    refine fM rfl ?_
    refine Run.fin rfl (EndOk.go ?_); exact .tup2 (.le (.same rfl)) (.t rfl)

theorem rCopies_ok (H : Pr P) (l : List Val) (hl : l.length * 80 ≤ 140737488355328) (hc : ∀ x, x ∈ l → FnOk P 116 [x.v] ⟨[], 0⟩ { v := x.v }) : FnOk P 132 [.t (.lst (l.map Val.enc))] ⟨[], 0⟩ { v := .t (.lst (l.map Val.enc)) } := by
  refine FnOk.run H.i132 H.mixed rfl rfl ?_
  refine fR rfl ?_
  refine rList l (fun i (B : List Val) => { env := [(0, .t (.lst (l.map Val.enc))), (3, .own 0 5 (B.map Val.enc)), (4, .t (.int .i64 i))], s := ⟨[(0, .arr B.length)], 1⟩ }) (fun r i B => B.length = i ∧ B ++ r = l) 0 [] rfl ⟨rfl, rfl⟩ rfl rfl rfl ?_ ?_
  · rintro B ⟨_, hB⟩
    refine fR rfl ?_
    refine lM rfl rfl rfl ?_
    refine fM rfl ?_
    refine Run.condF rfl rfl (by simp) ?_
    refine fR rfl ?_
    refine Run.fin rfl (EndOk.go ?_); exact .own (by rw [← hB]; simp)
  · rintro i x r B h1 hi hd ⟨hBl, hB⟩ ih
    refine fR rfl ?_
    refine lM rfl rfl rfl ?_
    refine fM rfl ?_
    refine Run.condT rfl rfl (by simp; omega) ?_
    refine fR rfl ?_
    refine Mid.elemMapC (Val.enc_eq x) rfl rfl rfl h1 rfl rfl ?_
    refine fM rfl ?_
    refine Mid.call (hc x (List.mem_of_getElem? h1)) rfl rfl rfl rfl ?_
    refine fM rfl ?_
    refine apM Val.enc B [x] rfl (congrArg (fun c => some (T.lst [c])) (Val.enc_eq x).symm) rfl rfl rfl ?_ (hl := fun x => (congrArg List.length (Val.enc_eq x)).trans rfl)
    refine fM rfl ?_
    refine aL rfl rfl rfl rfl rfl ?_
    refine fM rfl ?_
    exact rWeak 1 rfl (ih (B ++ [x]) ⟨by simp; omega, by rw [← hB]; simp⟩) rfl rfl rfl
theorem rCopy_ok (H : Pr P) : ∀ (k : Nat) (v : Val), SizeOf.sizeOf v ≤ k → v.Ok → FnOk P 116 [v.v] ⟨[], 0⟩ { v := v.v }
  | 0, v, h, _ => by cases v; simp at h
  | k + 1, v, h, ho => by
    refine FnOk.run H.i116 H.mixed rfl rfl ?_
    refine fR rfl ?_
    refine Mid.call (rCopies_ok H v.items ho.il (fun x hx => rCopy_ok H k x (by have := Val.size_items v hx; omega) (ho.it x hx))) rfl rfl rfl rfl ?_
    refine fM rfl ?_
    refine apN sE v.keys rfl rfl rfl ?_ (h1 := ho.kl) (h2 := by have := ho.kl; omega)
    refine fM rfl ?_
    refine Run.fin rfl (EndOk.go ?_); exact .agg (.cons (.t rfl) (.cons (.t rfl) (.cons (.t rfl) (.cons (.t rfl) (.cons (.own rfl) .nil)))))
theorem rValCopy_ok (H : Pr P) (v : Val) (ho : v.Ok) : FnOk P 116 [v.v] ⟨[], 0⟩ { v := v.v } := rCopy_ok H _ v (Nat.le_refl _) ho

theorem rGet_ok (H : Pr P) (v : Val) (ho : v.Ok) (k : Str) : FnOk P 86 [v.v, .t (.str k)] ⟨[], 0⟩ { v := .tup [((getV v k).getD Val.zero).v, .t (.bool (getV v k).isSome)] } := by
  have hkl := ho.kl
  have hil := ho.il
  refine FnOk.run H.i86 H.mixed rfl rfl ?_
  refine fR rfl ?_
  refine Run.cond rfl rfl (fun h => ?_) (fun h => ?_)
  · have e : getV v k = none := by simp only [getV]; rw [if_pos h]
    rw [e]
    refine fR rfl ?_
    refine Run.fin rfl (EndOk.go ?_); exact .tup2 (.agg (.cons (.t rfl) (.cons (.t rfl) (.cons (.t rfl) (.cons (.nil rfl) (.cons (.nil rfl) .nil)))))) (.t rfl)
  · have h' : ¬ (v.kind != 6) = true := by rw [h]; simp
    have e : getV v k = getK v.items k v.keys 0 := by simp only [getV]; rw [if_neg h']
    rw [e]
    refine fR rfl ?_
    refine rList v.keys (fun i (_ : Unit) => { env := [(1, .t (.str k)), (2, .ptr 0 0), (4, .ptr 1 0), (6, .t (.int .i64 i))], s := ⟨[(0, .cells [.t (.int .i64 v.kind), .t (.int .i64 v.int), .t (.str v.text), .t (.lst (v.items.map Val.enc)), .t (.lst (v.keys.map sE))]), (1, .cells [.t (.int .i64 0), .t (.int .i64 0), .t (.str []), .nils, .nils])], 2⟩ }) (fun r i _ => getK v.items k v.keys 0 = getK v.items k r i) 2 () rfl rfl rfl rfl rfl ?_ ?_
    · intro _ hinv
      refine fR rfl ?_
      refine lM rfl rfl rfl ?_
      refine fM rfl ?_
      refine Run.condF rfl rfl (by simp) ?_
      refine fR rfl ?_
      have e : getK v.items k v.keys 0 = none := by rw [hinv]; rfl
      rw [e]
      refine Run.fin rfl (EndOk.go ?_); exact .tup2 (.agg (.cons (.t rfl) (.cons (.t rfl) (.cons (.t rfl) (.cons (.nil rfl) (.cons (.nil rfl) .nil)))))) (.t rfl)
    · intro i s r _ h1 hi hd hinv ih
      refine fR rfl ?_
      refine lM rfl rfl rfl ?_
      refine fM rfl ?_
      refine Run.condT rfl rfl (by simp; omega) ?_
      refine fR rfl ?_
      refine Mid.elemMap rfl rfl rfl h1 rfl rfl ?_
      refine fM rfl ?_
      refine Run.cond rfl rfl (fun hs => ?_) (fun hs => ?_)
      · have e2 : getK v.items k v.keys 0 = v.items[i]? := by rw [hinv]; simp only [getK]; rw [if_pos hs]
        rw [e2]
        refine fR rfl ?_
        refine lM rfl rfl rfl ?_
        refine fM rfl ?_
        refine Run.cond rfl rfl (fun hb => ?_) (fun hb => ?_)
        · have hb' : v.items.length ≤ i := by simp at hb; omega
          rw [List.getElem?_eq_none hb']
          refine fR rfl ?_
          refine Run.fin rfl (EndOk.go ?_); exact .tup2 (.agg (.cons (.t rfl) (.cons (.t rfl) (.cons (.t rfl) (.cons (.nil rfl) (.cons (.nil rfl) .nil)))))) (.t rfl)
        · have hb' : i < v.items.length := by simp at hb; omega
          have hx : v.items[i]? = some v.items[i] := List.getElem?_eq_getElem hb'
          have hxo := ho.it _ (List.mem_of_getElem? hx)
          rw [hx]
          generalize v.items[i] = x at hx hxo
          refine fR rfl ?_
          refine Mid.elemMapC (Val.enc_eq x) rfl rfl rfl hx rfl rfl ?_
          refine fM rfl ?_
          refine Mid.call (rValCopy_ok H x hxo) rfl rfl rfl rfl ?_
          refine fM rfl ?_
          refine Run.fin rfl (EndOk.go ?_); exact .tup2 (.le (.same rfl)) (.t rfl)
      · have hs' : ¬ (s == k) = true := by rw [hs]; simp
        refine fR rfl ?_
        refine aL rfl rfl rfl rfl rfl ?_
        refine fM rfl ?_
        exact rWeak 2 rfl (ih () (by rw [hinv]; simp only [getK]; rw [if_neg hs'])) rfl rfl rfl
end Go.GB.C43

/-
  A43G: contracts of chapters 43's functions: paths, marks.
-/
namespace Go.GB.C43
open Go.GB
set_option linter.unusedSimpArgs false
set_option linter.unusedVariables false
set_option maxRecDepth 100000
set_option maxHeartbeats 2000000
variable {P : Program}

instance hopDec : DecidableEq Hop := fun a b =>
  if h : a.on = b.on ∧ a.key = b.key then .isTrue (by cases a; cases b; simp at h; simp [h]) else .isFalse (fun e => h (by rw [e]; simp))
theorem hop_eq (a b : Hop) : keyEq a.enc b.enc = decide (a = b) := by
  obtain ⟨a1, a2⟩ := a
  obtain ⟨b1, b2⟩ := b
  rw [Bool.eq_iff_iff]
  simp [Hop.enc, keyEq, T.eqb]
theorem equalH_ok (H : Pr P) (a b : List Hop) (ha : a.length ≤ 140737488355328) : FnOk P 128 [.t (.lst (a.map Hop.enc)), .t (.lst (b.map Hop.enc))] ⟨[], 0⟩ { v := .t (.bool (decide (a = b))) } := by
  refine FnOk.run H.i128 H.mixed rfl rfl ?_
  refine fR rfl ?_
  refine lM rfl rfl rfl ?_
  refine fM rfl ?_
  refine lM rfl rfl rfl ?_
  refine fM rfl ?_
  refine Run.cond rfl rfl (fun h => ?_) (fun h => ?_)
  · refine fR rfl ?_
    refine Run.fin rfl (EndOk.go ?_)
    have : ¬ a = b := by rintro rfl; simp at h
    exact .t (by simp [this])
  · refine fR rfl ?_
    refine lM rfl rfl rfl ?_
    refine fM rfl ?_
    have hl : a.length = b.length := by
      have : ((a.length : Nat) : Int) = (b.length : Nat) := by simpa using h
      omega
    refine rList a (fun i (_ : Unit) => { env := [(0, .t (.lst (a.map Hop.enc))), (1, .t (.lst (b.map Hop.enc))), (12, .t (.int .i64 a.length)), (13, .t (.int .i64 i))], s := ⟨[], 0⟩ }) (fun r i _ => (a = b) = (r = b.drop i)) 0 () rfl (by simp) rfl rfl rfl ?_ ?_
    · intro _ hinv
      refine fR rfl ?_
      refine Run.condF rfl rfl (by simp) ?_
      refine fR rfl ?_
      have : a = b := by rw [hinv]; simp [hl]
      refine Run.fin rfl (EndOk.go ?_); exact .t (by simp [this])
    · intro i x r _ h1 hi hd hinv ih
      have h2 : b[i]? = some (b[i]'(by omega)) := by simp
      have hdb : b.drop i = b[i]'(by omega) :: b.drop (i + 1) := List.drop_eq_getElem_cons (by omega)
      generalize b[i]'(by omega) = y at h2 hdb
      refine fR rfl ?_
      refine Run.condT rfl rfl (by simp; omega) ?_
      refine fR rfl ?_
      refine Mid.elemMap rfl rfl rfl h1 rfl rfl ?_
      refine fM rfl ?_
      refine Mid.elemMap rfl rfl rfl h2 rfl rfl ?_
      refine fM rfl ?_
      refine p0 rfl ?_
      refine fM rfl ?_
      refine Run.cond rfl rfl (fun hc => ?_) (fun hc => ?_)
      · refine fR rfl ?_
        have hne : ¬ x = y := by
          have hc' : (!(keyEq x.enc y.enc)) = true := hc
          rw [hop_eq] at hc'; simpa using hc'
        have : ¬ a = b := by rw [hinv, hdb]; exact fun e => hne (List.cons.inj e).1
        refine Run.fin rfl (EndOk.go ?_); exact .t (by simp [this])
      · refine fR rfl ?_
        refine aL rfl rfl rfl rfl rfl ?_
        refine fM rfl ?_
        have he : x = y := by
          have hc' : (!(keyEq x.enc y.enc)) = false := hc
          rw [hop_eq] at hc'; simpa using hc'
        exact rWeak 0 rfl (ih () (by rw [hinv, hdb]; exact propext ⟨fun e => (List.cons.inj e).2, fun e => by rw [he, e]⟩)) rfl rfl rfl
theorem gone1_ok (H : Pr P) (p path : List Hop) (hp : p.length ≤ 140737488355328) : FnOk P 127 [.t (.lst (p.map Hop.enc)), .ptr 0 0] ⟨[(0, .cells [.t (.lst (path.map Hop.enc))])], 1⟩ { v := .t (.bool (decide (p = path))), rd := true } := by
  refine FnOk.run H.i127 H.mixed rfl rfl ?_
  refine fR rfl ?_
  refine Mid.call (equalH_ok H p path hp) rfl rfl rfl rfl ?_
  refine fM rfl ?_
  refine Run.fin rfl (EndOk.sameX rfl rfl rfl (by first | exact rfl | exact nSto_bd | exact tSto_bd) (.t (rfl)))
def idxP (q : List Hop → Bool) : Int → List (List Hop) → Int
  | _, [] => -1
  | i, b :: l => if q b = true then i else idxP q (i + 1) l
theorem idxP_ge (q : List Hop → Bool) : ∀ (l : List (List Hop)) (i : Int), 0 ≤ i → decide (idxP q i l ≥ 0) = l.any q
  | [], i, h => by simp [idxP]
  | b :: l, i, h => by
    have ih := idxP_ge q l (i + 1) (by omega)
    by_cases hp : q b = true
    · simp [idxP, hp, h]
    · have e : idxP q i (b :: l) = idxP q (i + 1) l := by simp only [idxP]; rw [if_neg hp]
      rw [e, ih]; simp [hp]
structure PathsOk (ps : List (List Hop)) : Prop where
  l : ps.length ≤ 140737488355328
  p : ∀ x, x ∈ ps → x.length ≤ 140737488355328
theorem indexFuncH_ok (H : Pr P) (path : List Hop) (l : List (List Hop)) (hl : PathsOk l) : FnOk P 133 [.t (.lst (l.map pE)), .fn 127 [(0, 0)]] ⟨[(0, .cells [.t (.lst (path.map Hop.enc))])], 1⟩ { v := .t (.int .i64 (idxP (fun p => decide (p = path)) 0 l)), rd := true } := by
  have hll := hl.l
  refine FnOk.run H.i133 H.mixed rfl rfl ?_
  refine fR rfl ?_
  refine lM rfl rfl rfl ?_
  refine fM rfl ?_
  refine rList l (fun i (_ : Unit) => { env := [(0, .t (.lst (l.map pE))), (1, .fn 127 [(0, 0)]), (7, .t (.int .i64 l.length)), (8, .t (.int .i64 i))], s := ⟨[(0, .cells [.t (.lst (path.map Hop.enc))])], 1⟩ }) (fun r i _ => idxP (fun p => decide (p = path)) 0 l = idxP (fun p => decide (p = path)) i r) 1 () rfl rfl rfl rfl rfl ?_ ?_
  · intro _ hinv
    refine fR rfl ?_
    refine Run.condF rfl rfl (by simp) ?_
    refine fR rfl ?_
    refine Run.fin rfl (EndOk.sameX rfl rfl rfl (by first | exact rfl | exact nSto_bd | exact tSto_bd) (.t ((by rw [hinv]; rfl))))
  · intro i x r _ h1 hi hd hinv ih
    refine fR rfl ?_
    refine Run.condT rfl rfl (by simp; omega) ?_
    refine fR rfl ?_
    refine Mid.elemMap rfl rfl rfl h1 rfl rfl ?_
    refine fM rfl ?_
    refine Mid.callvS rfl (gone1_ok H x path (hl.p x (List.mem_of_getElem? h1))) rfl rfl rfl rfl ?_
    refine fM rfl ?_
    refine Run.cond rfl rfl (fun hc => ?_) (fun hc => ?_)
    · refine fR rfl ?_
      refine Run.fin rfl (EndOk.sameX rfl rfl rfl (by first | exact rfl | exact nSto_bd | exact tSto_bd) (.t ((by rw [hinv]; simp only [idxP]; rw [if_pos hc]))))
    · refine fR rfl ?_
      refine aL rfl rfl rfl rfl rfl ?_
      refine fM rfl ?_
      have h' : ¬ decide (x = path) = true := by rw [hc]; simp
      exact rWeak 1 rfl (ih () (by rw [hinv]; simp only [idxP]; rw [if_neg h']; rfl)) rfl rfl rfl
theorem containsFuncH_ok (H : Pr P) (path : List Hop) (l : List (List Hop)) (hl : PathsOk l) : FnOk P 126 [.t (.lst (l.map pE)), .fn 127 [(0, 0)]] ⟨[(0, .cells [.t (.lst (path.map Hop.enc))])], 1⟩ { v := .t (.bool (decide (path ∈ l))), rd := true } := by
  refine FnOk.run H.i126 H.mixed rfl rfl ?_
  refine fR rfl ?_
  refine Mid.callS (indexFuncH_ok H path l hl) rfl rfl (by first | exact rfl | exact nSto_bd | exact tSto_bd) rfl ?_
  refine fM rfl ?_
  refine Run.fin rfl (EndOk.sameX rfl rfl rfl (by first | exact rfl | exact nSto_bd | exact tSto_bd) (.t ((by
    rw [show decide (path ∈ l) = l.any (fun p => decide (p = path)) by rw [Bool.eq_iff_iff]; simp, ← idxP_ge _ l 0 (by omega)]))))
theorem gone_ok (H : Pr P) (path : List Hop) (l : List (List Hop)) (hl : PathsOk l) : FnOk P 104 [.agg [.t (.lst (l.map pE))], .t (.lst (path.map Hop.enc))] ⟨[], 0⟩ { v := .t (.bool (decide (path ∈ l))) } := by
  refine FnOk.run H.i104 H.mixed rfl rfl ?_
  refine fR rfl ?_
  refine Mid.callRd [1] (containsFuncH_ok H path l hl) rfl rfl rfl rfl (by simp [stoBd]; simp [AObj.bd, V.bds, V.bd]) (by repeat' (first | exact trivial | exact rfl | refine And.intro ?_ ?_ | exact (congrArg some (AObj.ren_mE _ _ _ _ _ _)).symm | exact (congrArg some (AObj.ren_cE _ _ _)).symm)) rfl ?_
  refine fM rfl ?_
  refine Run.fin rfl (EndOk.go ?_); exact .t rfl

def listedP (path : List Hop) : List (List Hop) → Bool
  | [] => false
  | p :: r => if decide (p = path) = true then true else listedP path r
theorem listedP_eq (path : List Hop) : ∀ l : List (List Hop), listedP path l = decide (path ∈ l)
  | [] => by simp [listedP]
  | p :: r => by
    simp only [listedP, listedP_eq path r]
    by_cases h : p = path
    · simp [h]
    · have : ¬ path = p := fun e => h e.symm
      simp [h, this]
theorem listed_ok (H : Pr P) (path : List Hop) (hp : path.length ≤ 140737488355328) (l : List (List Hop)) (hl : PathsOk l) : FnOk P 105 [.t (.lst (l.map pE)), .t (.lst (path.map Hop.enc))] ⟨[], 0⟩ { v := .t (.bool (decide (path ∈ l))) } := by
  rw [← listedP_eq]
  have hll := hl.l
  refine FnOk.run H.i105 H.mixed rfl rfl ?_
  refine fR rfl ?_
  refine rList l (fun i (_ : Unit) => { env := [(0, .t (.lst (l.map pE))), (1, .t (.lst (path.map Hop.enc))), (5, .t (.int .i64 i))], s := ⟨[], 0⟩ }) (fun r i _ => listedP path l = listedP path r) 0 () rfl rfl rfl rfl rfl ?_ ?_
  · intro _ hinv
    refine fR rfl ?_
    refine lM rfl rfl rfl ?_
    refine fM rfl ?_
    refine Run.condF rfl rfl (by simp) ?_
    refine fR rfl ?_
    refine Run.fin rfl (EndOk.go ?_); exact .t (by rw [hinv]; rfl)
  · intro i p r _ h1 hi hd hinv ih
    refine fR rfl ?_
    refine lM rfl rfl rfl ?_
    refine fM rfl ?_
    refine Run.condT rfl rfl (by simp; omega) ?_
    refine fR rfl ?_
    refine Mid.elemMap rfl rfl rfl h1 rfl rfl ?_
    refine fM rfl ?_
    refine lM rfl rfl rfl ?_
    refine fM rfl ?_
    refine lM rfl rfl rfl ?_
    refine fM rfl ?_
    refine rLoopM (β := Nat × Bool) (fun b => { env := [(0, .t (.lst (l.map pE))), (1, .t (.lst (path.map Hop.enc))), (5, .t (.int .i64 i)), (6, .t (.bool b.2)), (7, .t (.int .i64 b.1))], s := ⟨[], 0⟩ })
      (fun b => b.1 ≤ path.length ∧ (b.2 = true → p.length = path.length ∧ p.take b.1 = path.take b.1) ∧ (b.2 = false → ¬ p = path)) (fun b => path.length + 1 - b.1) 0 (0, (((p.length : Nat) : Int) == (path.length : Nat))) rfl ⟨Nat.zero_le _, fun e => ⟨by simp at e; omega, by simp⟩, fun e => by rintro rfl; simp at e⟩ rfl rfl rfl ?_
    rintro ⟨k, b⟩ ⟨hk, hb1, hb2⟩ ihk
    simp only at hk hb1 hb2
    refine fR rfl ?_
    refine lM rfl rfl rfl ?_
    refine fM rfl ?_
    refine Run.cond rfl rfl (fun hc => ?_) (fun hc => ?_)
    · have hc' : k < path.length ∧ b = true := by simp at hc; exact ⟨by omega, hc.2⟩
      obtain ⟨hkl, rfl⟩ := hc'
      obtain ⟨e1, e2⟩ := hb1 rfl
      have hpk : p[k]? = some (p[k]'(by omega)) := by simp
      have hqk : path[k]? = some (path[k]'(by omega)) := by simp
      have htp : p.take (k + 1) = p.take k ++ [p[k]'(by omega)] := by rw [List.take_add_one, hpk]; rfl
      have htq : path.take (k + 1) = path.take k ++ [path[k]'(by omega)] := by rw [List.take_add_one, hqk]; rfl
      generalize p[k]'(by omega) = x at hpk htp
      generalize path[k]'(by omega) = y at hqk htq
      refine fR rfl ?_
      refine Mid.elemMap rfl rfl rfl h1 rfl rfl ?_
      refine fM rfl ?_
      refine Mid.elemMap rfl rfl rfl hpk rfl rfl ?_
      refine fM rfl ?_
      refine Mid.elemMap rfl rfl rfl hqk rfl rfl ?_
      refine fM rfl ?_
      refine p0 rfl ?_
      refine fM rfl ?_
      refine aL rfl rfl rfl rfl rfl ?_
      refine fM rfl ?_
      exact rWeak 0 rfl (ihk (k + 1, keyEq x.enc y.enc) (by simp only; omega) ⟨by simp only; omega, fun e => ⟨e1, by rw [hop_eq] at e; simp at e; rw [htp, htq, e2, e]⟩, fun e => by
        intro hpp
        rw [hop_eq] at e
        simp at e
        rw [hpp, hqk] at hpk
        cases hpk; exact e rfl⟩) rfl rfl rfl
    · have hc' : ¬ (k < path.length ∧ b = true) := by
        rintro ⟨h1, rfl⟩; simp at hc; omega
      refine fR rfl ?_
      refine Run.cond rfl rfl (fun hb => ?_) (fun hb => ?_)
      · have hb' : b = true := hb
        obtain ⟨e1, e2⟩ := hb1 hb'
        have hk' : k = path.length := by
          rcases Nat.lt_or_ge k path.length with h | h
          · exact absurd ⟨h, hb'⟩ hc'
          · omega
        have hpp : p = path := by
          rw [hk', List.take_length] at e2
          rw [← e2, List.take_of_length_le (by omega)]
        refine fR rfl ?_
        refine Run.fin rfl (EndOk.go ?_); exact .t (by rw [hinv]; simp [listedP, hpp])
      · have hb' : b = false := hb
        have hpp := hb2 hb'
        refine fR rfl ?_
        refine aL rfl rfl rfl rfl rfl ?_
        refine fM rfl ?_
        exact rWeak 0 rfl (ih () (by rw [hinv]; simp [listedP, hpp])) rfl rfl rfl
end Go.GB.C43

/-
  A43H: contracts of chapters 43's functions: marks.
-/
namespace Go.GB.C43
open Go.GB
set_option linter.unusedSimpArgs false
set_option linter.unusedVariables false
set_option maxRecDepth 100000
set_option maxHeartbeats 4000000
variable {P : Program}

def tS : Str := [95, 95, 116]
def forbS : Str := [102, 111, 114, 98, 105, 100, 100, 101, 110]
def textV (s : Str) : Val := .mk 3 0 s [] []
def failV : Val := .mk 9 0 forbS [] []
theorem text_ok (H : Pr P) (s : Str) : FnOk P 59 [.t (.str s)] ⟨[], 0⟩ { v := (textV s).v } := by
  refine FnOk.run H.i59 H.mixed rfl rfl ?_
  refine fR rfl ?_
  refine Run.fin rfl (EndOk.go ?_); exact .agg (.cons (.t rfl) (.cons (.t rfl) (.cons (.t rfl) (.cons (.nil rfl) (.cons (.nil rfl) .nil)))))

/-- what is laid for a pick -/
def markItem (paths : List (List Hop)) (rec : List Pick → Val → List Hop → Val) (v : Val) (path : List Hop) (p : Pick) : Val :=
  if decide (path ++ [⟨p.on, p.key⟩] ∈ paths) = true then failV else
  match getV v p.key with
  | some x => rec p.picks x (path ++ [⟨p.on, p.key⟩])
  | none => Val.zero
def objOf (paths : List (List Hop)) (rec : List Pick → Val → List Hop → Val) (v : Val) (path : List Hop) (t : Str) (l : List Pick) : Val :=
  .mk 6 0 [] (textV t :: (l.filter fun p => p.on == t).map (markItem paths rec v path)) (tS :: (l.filter fun p => p.on == t).map Pick.key)
def markF (paths : List (List Hop)) : Nat → List Pick → Val → List Hop → Val
  | 0, _, v, _ => v
  | k + 1, l, v, path =>
    if (v.kind == 5) = true then .mk 5 0 [] (v.items.map fun x => markF paths k l x path) []
    else match getV v tS with
      | none => v
      | some t => if (t.kind != 3) = true then v else objOf paths (markF paths k) v path t.text l

theorem getV_ok {v : Val} (ho : v.Ok) {k : Str} {x : Val} (h : getV v k = some x) : x.Ok := ho.it x (getV_mem h)

def MarkC (P : Program) (paths : List (List Hop)) (k : Nat) (l : List Pick) (v : Val) (path : List Hop) : Prop :=
  FnOk P 60 [.agg [.t (.lst (paths.map pE))], .t (.lst (l.map Pick.enc)), v.v, .t (.lst (path.map Hop.enc))] ⟨[], 0⟩ { v := (markF paths k l v path).v }

theorem mark_step (H : Pr P) (paths : List (List Hop)) (hP : PathsOk paths) (k : Nat) (l : List Pick) (v : Val) (path : List Hop) (hO : ∀ p, p ∈ l → p.Ok) (hn : Pick.cnts l + path.length ≤ 10000) (ho : v.Ok)
    (hrec : ∀ (l' : List Pick) (x : Val) (path' : List Hop), x ∈ v.items → (∀ p, p ∈ l' → p.Ok) → Pick.cnts l' + path'.length ≤ 10000 → MarkC P paths k l' x path') : MarkC P paths (k + 1) l v path := by
  have hll := Pick.cnts_len l
  have hil := ho.il
  unfold MarkC
  refine FnOk.run H.i60 H.mixed rfl rfl ?_
  refine fR rfl ?_
  refine Run.cond rfl rfl (fun h5 => ?_) (fun h5 => ?_)
  · have e5 : markF paths (k + 1) l v path = .mk 5 0 [] (v.items.map fun x => markF paths k l x path) [] := by simp only [markF]; rw [if_pos h5]
    rw [e5]
    refine fR rfl ?_
    refine lM rfl rfl rfl ?_
    refine fM rfl ?_
    refine rList v.items (fun i (B : List Val) => { env := [(1, .t (.lst (l.map Pick.enc))), (3, .t (.lst (path.map Hop.enc))), (4, .ptr 0 0), (8, .ptr 2 0), (9, .ptr 3 0), (26, .t (.lst (v.items.map Val.enc))), (27, .t (.int .i64 v.items.length)), (28, .t (.int .i64 i))], s := ⟨[(0, .cells [.t (.lst (paths.map pE))]), (2, .cells [.t (.int .i64 0), .t (.int .i64 0), .t (.str []), .nils, .nils]), (3, .cells [.t (.int .i64 5), .t (.int .i64 0), .t (.str []), .own 4 5 (B.map Val.enc), .nils]), (4, .arr B.length)], 5⟩ }) (fun r i B => B.length = i ∧ v.items.map (fun x => markF paths k l x path) = B ++ r.map (fun x => markF paths k l x path)) 4 [] rfl ⟨rfl, rfl⟩ rfl rfl rfl ?_ ?_
    · rintro B ⟨_, hB⟩
      have hB' : v.items.map (fun x => markF paths k l x path) = B := by rw [hB]; simp
      rw [hB']
      refine fR rfl ?_
      refine Run.condF rfl rfl (by simp) ?_
      refine fR rfl ?_
      refine Run.fin rfl (EndOk.go ?_); exact .agg (.cons (.t rfl) (.cons (.t rfl) (.cons (.t rfl) (.cons (.own rfl) (.cons (.nil rfl) .nil)))))
    · rintro i x r B h1 hi hd ⟨hBl, hB⟩ ih
      have hc := hrec l x path (List.mem_of_getElem? h1) hO hn
      unfold MarkC at hc
      refine fR rfl ?_
      refine Run.condT rfl rfl (by simp; omega) ?_
      refine fR rfl ?_
      refine Mid.elemMapC (Val.enc_eq x) rfl rfl rfl h1 rfl rfl ?_
      refine fM rfl ?_
      refine Mid.call (hc) rfl rfl rfl rfl ?_
      refine fM rfl ?_
      refine apM Val.enc B [(markF paths k l x path)] rfl (congrArg (fun c => some (T.lst [c])) (Val.enc_eq (markF paths k l x path)).symm) rfl rfl rfl ?_ (hl := fun x => (congrArg List.length (Val.enc_eq x)).trans rfl)
      refine fM rfl ?_
      refine aL rfl rfl rfl rfl rfl ?_
      refine fM rfl ?_
      exact rWeak 5 rfl (ih (B ++ [markF paths k l x path]) ⟨by simp; omega, by rw [hB]; simp⟩) rfl rfl rfl
  · have h5' : ¬ (v.kind == 5) = true := by rw [h5]; simp
    refine fR rfl ?_
    refine Mid.call (get_ok H v ho tS) rfl rfl rfl rfl ?_
    refine fM rfl ?_
    refine Run.cond rfl rfl (fun hz => ?_) (fun hz => ?_)
    · have e : markF paths (k + 1) l v path = v := by
        simp only [markF]; rw [if_neg h5']
        cases hg : getV v tS with
        | none => rfl
        | some t =>
          simp only
          rw [hg] at hz
          by_cases hk : (t.kind != 3) = true
          · rw [if_pos hk]
          · have h6 : v.kind = 6 := by
              simp only [getV] at hg
              split at hg
              · cases hg
              · simp_all
            simp [h6] at hz hk
            exact absurd hk hz
      rw [e]
      refine fR rfl ?_
      refine Mid.call (valCopy_ok H v ho) rfl rfl rfl rfl ?_
      refine fM rfl ?_
      refine Run.fin rfl (EndOk.go ?_); exact .le (.same rfl)
    · obtain ⟨t, hg⟩ : ∃ t, getV v tS = some t := by
        cases hg : getV v tS with
        | none => rw [hg] at hz; simp at hz
        | some t => exact ⟨t, rfl⟩
      have hk : ¬ (t.kind != 3) = true := by
        rw [hg] at hz; simp at hz; simp [hz]
      have e : markF paths (k + 1) l v path = objOf paths (markF paths k) v path t.text l := by
        simp only [markF]; rw [if_neg h5', hg]; simp only; rw [if_neg hk]
      rw [e]
      have hgd : (getV v tS).getD Val.zero = t := by rw [hg]; rfl
      simp only [hgd]
      refine fR rfl ?_
      refine Mid.call (text_ok H t.text) rfl rfl rfl rfl ?_
      refine fM rfl ?_
      refine lM rfl rfl rfl ?_
      refine fM rfl ?_
      refine rList l (fun i (B : List Val × List Str) => { env := [(3, .t (.lst (path.map Hop.enc))), (4, .ptr 0 0), (6, .ptr 1 0), (8, .ptr 2 0), (12, .ptr 3 0), (14, .ptr 6 0), (69, .t (.lst (l.map Pick.enc))), (70, .t (.int .i64 l.length)), (71, .t (.int .i64 i))], s := ⟨[(0, .cells [.t (.lst (paths.map pE))]), (1, .cells [.t (.int .i64 v.kind), .t (.int .i64 v.int), .t (.str v.text), .t (.lst (v.items.map Val.enc)), .t (.lst (v.keys.map sE))]), (2, .cells [.t (.int .i64 0), .t (.int .i64 0), .t (.str []), .nils, .nils]), (3, .cells [.t (.int .i64 t.kind), .t (.int .i64 t.int), .t (.str t.text), .t (.lst (t.items.map Val.enc)), .t (.lst (t.keys.map sE))]), (4, .arr B.2.length), (5, .arr B.1.length), (6, .cells [.t (.int .i64 6), .t (.int .i64 0), .t (.str []), .own 5 5 (B.1.map Val.enc), .own 4 1 (B.2.map sE)])], 7⟩ }) (fun r i B => B.1.length ≤ i + 1 ∧ B.2.length ≤ i + 1 ∧ objOf paths (markF paths k) v path t.text l = .mk 6 0 [] (B.1 ++ (r.filter fun p => p.on == t.text).map (markItem paths (markF paths k) v path)) (B.2 ++ (r.filter fun p => p.on == t.text).map Pick.key)) 7 ([textV t.text], [tS]) rfl ⟨by simp, by simp, rfl⟩ rfl rfl rfl ?_ ?_ (he := (by repeat' (first | exact trivial | exact LeX.t | exact LeX.top | exact LeX.nilOwn (Nat.le_of_ble_eq_true rfl) (Nat.le_of_ble_eq_true rfl) | exact LeX.ownT | exact LeX.nilT | exact LeX.same rfl | exact LeX.tEq (by simp[Val.enc, textV, Val.encs, sE, tS]) | exact LeX.ownEq (by simp[Val.enc, textV, Val.encs, sE, tS]) (Nat.le_of_ble_eq_true rfl) | exact LeX.tEq (by congr 1 <;> omega) | exact Or.inr ⟨Nat.le_of_ble_eq_true rfl, Nat.le_of_ble_eq_true rfl, rfl⟩ | refine Or.inl ⟨Nat.le_of_ble_eq_true rfl, _, rfl, ?_⟩ | refine LeO.cells ?_ | exact LeO.arr rfl | exact LeO.arr (by simp[Val.enc, textV, Val.encs, sE, tS]) | exact LeO.mE (by first | rfl | simp[Val.enc, textV, Val.encs, sE, tS]) (by first | exact Or.inl rfl | exact Or.inr rfl) | exact LeO.cE (by first | rfl | simp[Val.enc, textV, Val.encs, sE, tS]) | exact LeXs.cE (by first | rfl | simp[Val.enc, textV, Val.encs, sE, tS]) | refine LeO.map (by first | rfl | simp) ?_ (by first | exact Or.inl rfl | exact Or.inr rfl) | refine LeXs.cons ?_ ?_ | exact LeXs.nil | refine And.intro ?_ ?_))) (hs := (by repeat' (first | exact trivial | exact LeX.t | exact LeX.top | exact LeX.nilOwn (Nat.le_of_ble_eq_true rfl) (Nat.le_of_ble_eq_true rfl) | exact LeX.ownT | exact LeX.nilT | exact LeX.same rfl | exact LeX.tEq (by simp[Val.enc, textV, Val.encs, sE, tS]) | exact LeX.ownEq (by simp[Val.enc, textV, Val.encs, sE, tS]) (Nat.le_of_ble_eq_true rfl) | exact LeX.tEq (by congr 1 <;> omega) | exact Or.inr ⟨Nat.le_of_ble_eq_true rfl, Nat.le_of_ble_eq_true rfl, rfl⟩ | refine Or.inl ⟨Nat.le_of_ble_eq_true rfl, _, rfl, ?_⟩ | refine LeO.cells ?_ | exact LeO.arr rfl | exact LeO.arr (by simp[Val.enc, textV, Val.encs, sE, tS]) | exact LeO.mE (by first | rfl | simp[Val.enc, textV, Val.encs, sE, tS]) (by first | exact Or.inl rfl | exact Or.inr rfl) | exact LeO.cE (by first | rfl | simp[Val.enc, textV, Val.encs, sE, tS]) | exact LeXs.cE (by first | rfl | simp[Val.enc, textV, Val.encs, sE, tS]) | refine LeO.map (by first | rfl | simp) ?_ (by first | exact Or.inl rfl | exact Or.inr rfl) | refine LeXs.cons ?_ ?_ | exact LeXs.nil | refine And.intro ?_ ?_)))
      · rintro ⟨B1, B2⟩ ⟨_, _, hB⟩
        rw [hB]
        refine fR rfl ?_
        refine Run.condF rfl rfl (by simp) ?_
        refine fR rfl ?_
        refine Run.fin rfl (EndOk.go ?_); exact .agg (.cons (.t rfl) (.cons (.t rfl) (.cons (.t rfl) (.cons (.own (by simp [Val.items])) (.cons (.own (by simp [Val.keys])) .nil)))))
      · rintro i p r ⟨B1, B2⟩ h1 hi hd ⟨hB1, hB2, hB⟩ ih
        have hpm := List.mem_of_getElem? h1
        have hp := hO p hpm
        have hpc := cnt_le hpm
        have hce := Pick.cnt_eq p
        have hB1' : B1.length ≤ i + 1 := hB1
        have hB2' : B2.length ≤ i + 1 := hB2
        refine fR rfl ?_
        refine Run.condT rfl rfl (by simp; omega) ?_
        refine fR rfl ?_
        refine Mid.elemMapC (Pick.enc_eq p) rfl rfl rfl h1 rfl rfl ?_
        refine fM rfl ?_
        refine Run.cond rfl rfl (fun hon => ?_) (fun hon => ?_)
        · have hon' : (p.on == t.text) = false := by simpa using hon
          refine fR rfl ?_
          refine aL rfl rfl rfl rfl rfl ?_
          refine fM rfl ?_
          exact rWeak 7 rfl (ih (B1, B2) ⟨by simp only; omega, by simp only; omega, by rw [hB]; simp [hon']⟩) rfl rfl rfl
        · have hon' : (p.on == t.text) = true := by simpa using hon
          have hpt : p.on = t.text := by simpa using hon'
          refine fR rfl ?_
          refine Mid.call (below_ok H path (by omega) p.on p.key) rfl rfl rfl rfl ?_
          refine fM rfl ?_
          refine Mid.call (gone_ok H (path ++ [⟨p.on, p.key⟩]) paths hP) rfl rfl rfl rfl ?_
          refine fM rfl ?_
          have hfin : ∀ y, markItem paths (markF paths k) v path p = y → objOf paths (markF paths k) v path t.text l = .mk 6 0 [] (B1 ++ [y] ++ (r.filter fun p => p.on == t.text).map (markItem paths (markF paths k) v path)) (B2 ++ [p.key] ++ (r.filter fun p => p.on == t.text).map Pick.key) := by
            intro y hy; rw [hB]; simp [hon', hy]
          refine Run.cond rfl rfl (fun hgo => ?_) (fun hgo => ?_)
          · have hy : markItem paths (markF paths k) v path p = failV := by simp only [markItem]; rw [if_pos hgo]
            refine fR rfl ?_
            refine apM sE B2 [p.key] rfl rfl rfl rfl rfl ?_
            refine fM rfl ?_
            refine apM Val.enc B1 [failV] rfl (congrArg (fun c => some (T.lst [c])) (Val.enc_eq failV).symm) rfl rfl rfl ?_ (hl := fun x => (congrArg List.length (Val.enc_eq x)).trans rfl)
            refine fM rfl ?_
            refine aL rfl rfl rfl rfl rfl ?_
            refine fM rfl ?_
            exact rWeak 7 rfl (ih (B1 ++ [failV], B2 ++ [p.key]) ⟨by simp; omega, by simp; omega, hfin _ hy⟩) rfl rfl rfl
          · have hgo' : ¬ decide (path ++ [⟨p.on, p.key⟩] ∈ paths) = true := by rw [hgo]; simp
            refine fR rfl ?_
            refine Mid.call (get_ok H v ho p.key) rfl rfl rfl rfl ?_
            refine fM rfl ?_
            cases hgx : getV v p.key with
            | none =>
              have hy : markItem paths (markF paths k) v path p = Val.zero := by simp only [markItem]; rw [if_neg hgo', hgx]
              refine Run.condF rfl rfl rfl ?_
              refine fR rfl ?_
              refine apM sE B2 [p.key] rfl rfl rfl rfl rfl ?_
              refine fM rfl ?_
              refine apM Val.enc B1 [Val.zero] rfl (congrArg (fun c => some (T.lst [c])) (Val.enc_eq Val.zero).symm) rfl rfl rfl ?_ (hl := fun x => (congrArg List.length (Val.enc_eq x)).trans rfl)
              refine fM rfl ?_
              refine aL rfl rfl rfl rfl rfl ?_
              refine fM rfl ?_
              exact rWeak 7 rfl (ih (B1 ++ [Val.zero], B2 ++ [p.key]) ⟨by simp; omega, by simp; omega, hfin _ hy⟩) rfl rfl rfl
            | some x =>
              have hy : markItem paths (markF paths k) v path p = markF paths k p.picks x (path ++ [⟨p.on, p.key⟩]) := by simp only [markItem]; rw [if_neg hgo', hgx]
              have hc := hrec p.picks x (path ++ [⟨p.on, p.key⟩]) (getV_mem hgx) hp.p (by simp; omega)
              unfold MarkC at hc
              generalize markF paths k p.picks x (path ++ [⟨p.on, p.key⟩]) = y at hc hy
              refine Run.condT rfl rfl rfl ?_
              refine fR rfl ?_
              refine Mid.call (hc) rfl rfl rfl rfl ?_
              refine fM rfl ?_
              refine apM sE B2 [p.key] rfl rfl rfl rfl rfl ?_
              refine fM rfl ?_
              refine apM Val.enc B1 [y] rfl (congrArg (fun c => some (T.lst [c])) (Val.enc_eq y).symm) rfl rfl rfl ?_ (hl := fun x => (congrArg List.length (Val.enc_eq x)).trans rfl)
              refine fM rfl ?_
              refine aL rfl rfl rfl rfl rfl ?_
              refine fM rfl ?_
              exact rWeak 7 rfl (ih (B1 ++ [y], B2 ++ [p.key]) ⟨by simp; omega, by simp; omega, hfin _ hy⟩) rfl rfl rfl
theorem mark_ok (H : Pr P) (paths : List (List Hop)) (hP : PathsOk paths) : ∀ (k : Nat) (l : List Pick) (v : Val) (path : List Hop), SizeOf.sizeOf v ≤ k → (∀ p, p ∈ l → p.Ok) → Pick.cnts l + path.length ≤ 10000 → v.Ok → MarkC P paths k l v path
  | 0, l, v, path, h, _, _, _ => by cases v; simp at h
  | k + 1, l, v, path, h, hO, hn, ho => mark_step H paths hP k l v path hO hn ho fun l' x path' hx hO' hn' => mark_ok H paths hP k l' x path' (by have := Val.size_items v hx; omega) hO' hn' (ho.it x hx)
end Go.GB.C43

/-
  A43I: contracts of chapters 43's functions: the reference's marks.
-/
namespace Go.GB.C43
open Go.GB
set_option linter.unusedSimpArgs false
set_option linter.unusedVariables false
set_option maxRecDepth 100000
set_option maxHeartbeats 4000000
variable {P : Program}

def MarkR (P : Program) (paths : List (List Hop)) (k : Nat) (l : List Pick) (v : Val) (path : List Hop) : Prop :=
  FnOk P 61 [.t (.lst (l.map Pick.enc)), .t (.lst (paths.map pE)), v.v, .t (.lst (path.map Hop.enc))] ⟨[], 0⟩ { v := (markF paths k l v path).v }

theorem rMark_step (H : Pr P) (paths : List (List Hop)) (hP : PathsOk paths) (k : Nat) (l : List Pick) (v : Val) (path : List Hop) (hO : ∀ p, p ∈ l → p.Ok) (hn : Pick.cnts l + path.length ≤ 10000) (ho : v.Ok)
    (hrec : ∀ (l' : List Pick) (x : Val) (path' : List Hop), x ∈ v.items → (∀ p, p ∈ l' → p.Ok) → Pick.cnts l' + path'.length ≤ 10000 → MarkR P paths k l' x path') : MarkR P paths (k + 1) l v path := by
  have hll := Pick.cnts_len l
  have hil := ho.il
  unfold MarkR
  refine FnOk.run H.i61 H.mixed rfl rfl ?_
  refine fR rfl ?_
  refine Run.cond rfl rfl (fun h5 => ?_) (fun h5 => ?_)
  · have hv5 : v.kind = 5 := by simpa using h5
    have e5 : markF paths (k + 1) l v path = .mk v.kind 0 [] (v.items.map fun x => markF paths k l x path) [] := by simp only [markF]; rw [if_pos h5, hv5]
    rw [e5]
    refine fR rfl ?_
    refine rList v.items (fun i (B : List Val) => { env := [(0, .t (.lst (l.map Pick.enc))), (1, .t (.lst (paths.map pE))), (3, .t (.lst (path.map Hop.enc))), (6, .ptr 0 0), (8, .ptr 1 0), (9, .ptr 2 0), (10, .t (.int .i64 i))], s := ⟨[(0, .cells [.t (.int .i64 v.kind), .t (.int .i64 v.int), .t (.str v.text), .t (.lst (v.items.map Val.enc)), .t (.lst (v.keys.map sE))]), (1, .cells [.t (.int .i64 0), .t (.int .i64 0), .t (.str []), .nils, .nils]), (2, .cells [.t (.int .i64 v.kind), .t (.int .i64 0), .t (.str []), .own 3 5 (B.map Val.enc), .nils]), (3, .arr B.length)], 4⟩ }) (fun r i B => B.length = i ∧ v.items.map (fun x => markF paths k l x path) = B ++ r.map (fun x => markF paths k l x path)) 3 [] rfl ⟨rfl, rfl⟩ rfl rfl rfl ?_ ?_
    · rintro B ⟨_, hB⟩
      have hB' : v.items.map (fun x => markF paths k l x path) = B := by rw [hB]; simp
      rw [hB']
      refine fR rfl ?_
      refine lM rfl rfl rfl ?_
      refine fM rfl ?_
      refine Run.condF rfl rfl (by simp) ?_
      refine fR rfl ?_
      refine Run.fin rfl (EndOk.go ?_); exact .agg (.cons (.t rfl) (.cons (.t rfl) (.cons (.t rfl) (.cons (.own rfl) (.cons (.nil rfl) .nil)))))
    · rintro i x r B h1 hi hd ⟨hBl, hB⟩ ih
      have hc := hrec l x path (List.mem_of_getElem? h1) hO hn
      unfold MarkR at hc
      simp only [List.map_cons] at hB
      generalize markF paths k l x path = y at hc hB
      refine fR rfl ?_
      refine lM rfl rfl rfl ?_
      refine fM rfl ?_
      refine Run.condT rfl rfl (by simp; omega) ?_
      refine fR rfl ?_
      refine Mid.elemMapC (Val.enc_eq x) rfl rfl rfl h1 rfl rfl ?_
      refine fM rfl ?_
      refine Mid.call (hc) rfl rfl rfl rfl ?_
      refine fM rfl ?_
      refine apM Val.enc B [y] rfl (congrArg (fun c => some (T.lst [c])) (Val.enc_eq y).symm) rfl rfl rfl ?_ (hl := fun x => (congrArg List.length (Val.enc_eq x)).trans rfl)
      refine fM rfl ?_
      refine aL rfl rfl rfl rfl rfl ?_
      refine fM rfl ?_
      exact rWeak 4 rfl (ih (B ++ [y]) ⟨by simp; omega, by rw [hB]; simp⟩) rfl rfl rfl
  · have h5' : ¬ (v.kind == 5) = true := by rw [h5]; simp
    refine fR rfl ?_
    refine Mid.call (rGet_ok H v ho tS) rfl rfl rfl rfl ?_
    refine fM rfl ?_
    refine Run.cond rfl rfl (fun hz => ?_) (fun hz => ?_)
    · have e : markF paths (k + 1) l v path = v := by
        simp only [markF]; rw [if_neg h5']
        cases hg : getV v tS with
        | none => rfl
        | some t =>
          simp only
          rw [hg] at hz
          by_cases hk : (t.kind != 3) = true
          · rw [if_pos hk]
          · simp at hz hk
            exact absurd hk hz
      rw [e]
      refine fR rfl ?_
      refine Run.fin rfl (EndOk.go ?_); exact .le (.same rfl)
    · obtain ⟨t, hg⟩ : ∃ t, getV v tS = some t := by
        cases hg : getV v tS with
        | none => rw [hg] at hz; simp at hz
        | some t => exact ⟨t, rfl⟩
      have hk : ¬ (t.kind != 3) = true := by
        rw [hg] at hz; simp at hz; simp [hz]
      have h6 : v.kind = 6 := by
        simp only [getV] at hg
        split at hg
        · cases hg
        · simp_all
      have e : markF paths (k + 1) l v path = objOf paths (markF paths k) v path t.text l := by
        simp only [markF]; rw [if_neg h5', hg]; simp only; rw [if_neg hk]
      rw [e]
      have hgd : (getV v tS).getD Val.zero = t := by rw [hg]; rfl
      simp only [hgd]
      refine fR rfl ?_
      refine rList l (fun i (B : List Val × List Str) => { env := [(0, .t (.lst (l.map Pick.enc))), (1, .t (.lst (paths.map pE))), (3, .t (.lst (path.map Hop.enc))), (6, .ptr 0 0), (8, .ptr 1 0), (9, .ptr 2 0), (12, .ptr 3 0), (14, .t (.int .i64 i))], s := ⟨[(0, .cells [.t (.int .i64 v.kind), .t (.int .i64 v.int), .t (.str v.text), .t (.lst (v.items.map Val.enc)), .t (.lst (v.keys.map sE))]), (1, .cells [.t (.int .i64 0), .t (.int .i64 0), .t (.str []), .nils, .nils]), (2, .cells [.t (.int .i64 v.kind), .t (.int .i64 0), .t (.str []), .own 5 5 (B.1.map Val.enc), .own 4 1 (B.2.map sE)]), (3, .cells [.t (.int .i64 t.kind), .t (.int .i64 t.int), .t (.str t.text), .t (.lst (t.items.map Val.enc)), .t (.lst (t.keys.map sE))]), (4, .arr B.2.length), (5, .arr B.1.length)], 6⟩ }) (fun r i B => B.1.length ≤ i + 1 ∧ B.2.length ≤ i + 1 ∧ objOf paths (markF paths k) v path t.text l = .mk v.kind 0 [] (B.1 ++ (r.filter fun p => p.on == t.text).map (markItem paths (markF paths k) v path)) (B.2 ++ (r.filter fun p => p.on == t.text).map Pick.key)) 6 ([textV t.text], [tS]) rfl ⟨by simp, by simp, by rw [h6]; rfl⟩ rfl rfl rfl ?_ ?_ (he := (by repeat' (first | exact trivial | exact LeX.t | exact LeX.top | exact LeX.nilOwn (Nat.le_of_ble_eq_true rfl) (Nat.le_of_ble_eq_true rfl) | exact LeX.ownT | exact LeX.nilT | exact LeX.same rfl | exact LeX.tEq (by simp[Val.enc, textV, Val.encs, sE, tS]) | exact LeX.ownEq (by simp[Val.enc, textV, Val.encs, sE, tS]) (Nat.le_of_ble_eq_true rfl) | exact LeX.tEq (by congr 1 <;> omega) | exact Or.inr ⟨Nat.le_of_ble_eq_true rfl, Nat.le_of_ble_eq_true rfl, rfl⟩ | refine Or.inl ⟨Nat.le_of_ble_eq_true rfl, _, rfl, ?_⟩ | refine LeO.cells ?_ | exact LeO.arr rfl | exact LeO.arr (by simp[Val.enc, textV, Val.encs, sE, tS]) | exact LeO.mE (by first | rfl | simp[Val.enc, textV, Val.encs, sE, tS]) (by first | exact Or.inl rfl | exact Or.inr rfl) | exact LeO.cE (by first | rfl | simp[Val.enc, textV, Val.encs, sE, tS]) | exact LeXs.cE (by first | rfl | simp[Val.enc, textV, Val.encs, sE, tS]) | refine LeO.map (by first | rfl | simp) ?_ (by first | exact Or.inl rfl | exact Or.inr rfl) | refine LeXs.cons ?_ ?_ | exact LeXs.nil | refine And.intro ?_ ?_))) (hs := (by repeat' (first | exact trivial | exact LeX.t | exact LeX.top | exact LeX.nilOwn (Nat.le_of_ble_eq_true rfl) (Nat.le_of_ble_eq_true rfl) | exact LeX.ownT | exact LeX.nilT | exact LeX.same rfl | exact LeX.tEq (by simp[Val.enc, textV, Val.encs, sE, tS]) | exact LeX.ownEq (by simp[Val.enc, textV, Val.encs, sE, tS]) (Nat.le_of_ble_eq_true rfl) | exact LeX.tEq (by congr 1 <;> omega) | exact Or.inr ⟨Nat.le_of_ble_eq_true rfl, Nat.le_of_ble_eq_true rfl, rfl⟩ | refine Or.inl ⟨Nat.le_of_ble_eq_true rfl, _, rfl, ?_⟩ | refine LeO.cells ?_ | exact LeO.arr rfl | exact LeO.arr (by simp[Val.enc, textV, Val.encs, sE, tS]) | exact LeO.mE (by first | rfl | simp[Val.enc, textV, Val.encs, sE, tS]) (by first | exact Or.inl rfl | exact Or.inr rfl) | exact LeO.cE (by first | rfl | simp[Val.enc, textV, Val.encs, sE, tS]) | exact LeXs.cE (by first | rfl | simp[Val.enc, textV, Val.encs, sE, tS]) | refine LeO.map (by first | rfl | simp) ?_ (by first | exact Or.inl rfl | exact Or.inr rfl) | refine LeXs.cons ?_ ?_ | exact LeXs.nil | refine And.intro ?_ ?_)))
      · rintro ⟨B1, B2⟩ ⟨_, _, hB⟩
        rw [hB]
        refine fR rfl ?_
        refine lM rfl rfl rfl ?_
        refine fM rfl ?_
        refine Run.condF rfl rfl (by simp) ?_
        refine fR rfl ?_
        refine Run.fin rfl (EndOk.go ?_); exact .agg (.cons (.t rfl) (.cons (.t rfl) (.cons (.t rfl) (.cons (.own (by simp [Val.items])) (.cons (.own (by simp [Val.keys])) .nil)))))
      · rintro i p r ⟨B1, B2⟩ h1 hi hd ⟨hB1, hB2, hB⟩ ih
        have hpm := List.mem_of_getElem? h1
        have hp := hO p hpm
        have hpc := cnt_le hpm
        have hce := Pick.cnt_eq p
        have hB1' : B1.length ≤ i + 1 := hB1
        have hB2' : B2.length ≤ i + 1 := hB2
        refine fR rfl ?_
        refine lM rfl rfl rfl ?_
        refine fM rfl ?_
        refine Run.condT rfl rfl (by simp; omega) ?_
        refine fR rfl ?_
        refine Mid.elemMapC (Pick.enc_eq p) rfl rfl rfl h1 rfl rfl ?_
        refine fM rfl ?_
        refine Run.cond rfl rfl (fun hon => ?_) (fun hon => ?_)
        · have hon' : (p.on == t.text) = false := by simpa using hon
          refine fR rfl ?_
          refine aL rfl rfl rfl rfl rfl ?_
          refine fM rfl ?_
          exact rWeak 6 rfl (ih (B1, B2) ⟨by simp only; omega, by simp only; omega, by rw [hB]; simp [hon']⟩) rfl rfl rfl
        · have hon' : (p.on == t.text) = true := by simpa using hon
          have hpt : p.on = t.text := by simpa using hon'
          have hfin : ∀ y, markItem paths (markF paths k) v path p = y → objOf paths (markF paths k) v path t.text l = .mk v.kind 0 [] (B1 ++ [y] ++ (r.filter fun p => p.on == t.text).map (markItem paths (markF paths k) v path)) (B2 ++ [p.key] ++ (r.filter fun p => p.on == t.text).map Pick.key) := by
            intro y hy; rw [hB]; simp [hon', hy]
          have hmi : markItem paths (markF paths k) v path p = if decide (path ++ [⟨t.text, p.key⟩] ∈ paths) = true then failV else match getV v p.key with | some x => markF paths k p.picks x (path ++ [⟨t.text, p.key⟩]) | none => Val.zero := by
            simp only [markItem]; first | (rw [hpt]; rfl) | rw [hpt]
          have hlp : (path ++ [(⟨t.text, p.key⟩ : Hop)]).length = path.length + 1 := by simp
          have hwith := with_ok H path (by omega) t.text p.key
          generalize path ++ [⟨t.text, p.key⟩] = path' at hmi hlp hwith
          refine fR rfl ?_
          refine Mid.elemMapC (Pick.enc_eq p) rfl rfl rfl h1 rfl rfl ?_
          refine fM rfl ?_
          refine Mid.call (hwith) rfl rfl rfl rfl ?_
          refine fM rfl ?_
          refine Mid.elemMapC (Pick.enc_eq p) rfl rfl rfl h1 rfl rfl ?_
          refine fM rfl ?_
          refine Mid.call (rGet_ok H v ho p.key) rfl rfl rfl rfl ?_
          refine fM rfl ?_
          refine Mid.call (listed_ok H path' (by omega) paths hP) rfl rfl rfl rfl ?_
          refine fM rfl ?_
          refine Run.cond rfl rfl (fun hgo => ?_) (fun hgo => ?_)
          · have hy : markItem paths (markF paths k) v path p = failV := by rw [hmi, if_pos hgo]
            refine fR rfl ?_
            refine Mid.elemMapC (Pick.enc_eq p) rfl rfl rfl h1 rfl rfl ?_
            refine fM rfl ?_
            refine apM sE B2 [p.key] rfl rfl rfl rfl rfl ?_
            refine fM rfl ?_
            refine apM Val.enc B1 [failV] rfl (congrArg (fun c => some (T.lst [c])) (Val.enc_eq failV).symm) rfl rfl rfl ?_ (hl := fun x => (congrArg List.length (Val.enc_eq x)).trans rfl)
            refine fM rfl ?_
            refine aL rfl rfl rfl rfl rfl ?_
            refine fM rfl ?_
            exact rWeak 6 rfl (ih (B1 ++ [failV], B2 ++ [p.key]) ⟨by simp; omega, by simp; omega, hfin _ hy⟩) rfl rfl rfl
          · have hgo' : ¬ decide (path' ∈ paths) = true := by rw [hgo]; simp
            refine fR rfl ?_
            cases hgx : getV v p.key with
            | none =>
              have hy : markItem paths (markF paths k) v path p = Val.zero := by rw [hmi, if_neg hgo', hgx]
              refine Run.condF rfl rfl rfl ?_
              refine fR rfl ?_
              refine Mid.elemMapC (Pick.enc_eq p) rfl rfl rfl h1 rfl rfl ?_
              refine fM rfl ?_
              refine apM sE B2 [p.key] rfl rfl rfl rfl rfl ?_
              refine fM rfl ?_
              refine apM Val.enc B1 [Val.zero] rfl (congrArg (fun c => some (T.lst [c])) (Val.enc_eq Val.zero).symm) rfl rfl rfl ?_ (hl := fun x => (congrArg List.length (Val.enc_eq x)).trans rfl)
              refine fM rfl ?_
              refine aL rfl rfl rfl rfl rfl ?_
              refine fM rfl ?_
              exact rWeak 6 rfl (ih (B1 ++ [Val.zero], B2 ++ [p.key]) ⟨by simp; omega, by simp; omega, hfin _ hy⟩) rfl rfl rfl
            | some x =>
              have hy : markItem paths (markF paths k) v path p = markF paths k p.picks x path' := by rw [hmi, if_neg hgo', hgx]
              have hc := hrec p.picks x path' (getV_mem hgx) hp.p (by omega)
              unfold MarkR at hc
              generalize markF paths k p.picks x path' = y at hc hy
              refine Run.condT rfl rfl rfl ?_
              refine fR rfl ?_
              refine Mid.elemMapC (Pick.enc_eq p) rfl rfl rfl h1 rfl rfl ?_
              refine fM rfl ?_
              refine Mid.call (hc) rfl rfl rfl rfl ?_
              refine fM rfl ?_
              refine Mid.elemMapC (Pick.enc_eq p) rfl rfl rfl h1 rfl rfl ?_
              refine fM rfl ?_
              refine apM sE B2 [p.key] rfl rfl rfl rfl rfl ?_
              refine fM rfl ?_
              refine apM Val.enc B1 [y] rfl (congrArg (fun c => some (T.lst [c])) (Val.enc_eq y).symm) rfl rfl rfl ?_ (hl := fun x => (congrArg List.length (Val.enc_eq x)).trans rfl)
              refine fM rfl ?_
              refine aL rfl rfl rfl rfl rfl ?_
              refine fM rfl ?_
              exact rWeak 6 rfl (ih (B1 ++ [y], B2 ++ [p.key]) ⟨by simp; omega, by simp; omega, hfin _ hy⟩) rfl rfl rfl
theorem rMark_ok (H : Pr P) (paths : List (List Hop)) (hP : PathsOk paths) : ∀ (k : Nat) (l : List Pick) (v : Val) (path : List Hop), SizeOf.sizeOf v ≤ k → (∀ p, p ∈ l → p.Ok) → Pick.cnts l + path.length ≤ 10000 → v.Ok → MarkR P paths k l v path
  | 0, l, v, path, h, _, _, _ => by cases v; simp at h
  | k + 1, l, v, path, h, hO, hn, ho => rMark_step H paths hP k l v path hO hn ho fun l' x path' hx hO' hn' => rMark_ok H paths hP k l' x path' (by have := Val.size_items v hx; omega) hO' hn' (ho.it x hx)

/-- a raw result that is null stands for an object without fields -/
def rawOf (l : List Pick) (v : Val) : Val :=
  match l with
  | [] => v
  | p :: _ => if (v.kind == 0) = true then .mk 6 0 [] [textV p.on] [tS] else v
def markT (paths : List (List Hop)) (k : Nat) (l : List Pick) (v : Val) : Val := markF paths k l (rawOf l v) []
theorem rawOf_ok {l : List Pick} {v : Val} (ho : v.Ok) (hl : ∀ p, p ∈ l → p.on.length ≤ 9223372036854775807) : (rawOf l v).Ok := by
  cases l with
  | nil => exact ho
  | cons p r =>
    simp only [rawOf]
    split
    · exact .mk (by show 1 * 80 ≤ 140737488355328; decide) (by show 1 * 16 ≤ 140737488355328; decide) (by
        intro x hx; simp at hx; subst hx
        exact .mk (by decide) (by decide) (by simp) (hl p (List.mem_cons_self ..)) (by simp)) (by decide) (by
        intro x hx; simp at hx; subst hx; decide)
    · exact ho
theorem markT_ok (H : Pr P) (paths : List (List Hop)) (hP : PathsOk paths) (k : Nat) (l : List Pick) (v : Val) (hk : SizeOf.sizeOf (rawOf l v) ≤ k) (hO : ∀ p, p ∈ l → p.Ok) (hon : ∀ p, p ∈ l → p.on.length ≤ 9223372036854775807) (hn : Pick.cnts l ≤ 10000) (ho : v.Ok) :
    FnOk P 24 [.t (.lst (l.map Pick.enc)), .t (.lst (paths.map pE)), v.v] ⟨[], 0⟩ { v := (markT paths k l v).v } := by
  have hll := Pick.cnts_len l
  have h := mark_ok H paths hP k l (rawOf l v) [] hk hO (by simpa using hn) (rawOf_ok ho hon)
  unfold MarkC at h
  unfold markT
  refine FnOk.run H.i24 H.mixed rfl rfl ?_
  refine fR rfl ?_
  refine lMG rfl rfl rfl rfl ?_
  refine fM rfl ?_
  refine Run.cond rfl rfl (fun hc => ?_) (fun hc => ?_)
  · have hc' : v.kind = 0 ∧ 0 < l.length := by simp at hc; omega
    obtain ⟨p, r, rfl⟩ : ∃ p r, l = p :: r := by
      cases l with
      | nil => simp at hc'
      | cons p r => exact ⟨p, r, rfl⟩
    have e : rawOf (p :: r) v = .mk 6 0 [] [textV p.on] [tS] := by simp only [rawOf]; rw [if_pos (by simp [hc'.1])]
    rw [e] at h ⊢
    generalize markF paths k (p :: r) (Val.mk 6 0 [] [textV p.on] [tS]) [] = y at h
    refine fR rfl ?_
    refine Mid.elemMapC (Pick.enc_eq p) rfl rfl rfl (show (p :: r)[0]? = some p from rfl) rfl rfl ?_
    refine fM rfl ?_
    refine Mid.call (text_ok H p.on) rfl rfl rfl rfl ?_
    refine fM rfl ?_
    refine Mid.call (h) rfl rfl rfl rfl ?_
    refine fM rfl ?_
    refine Run.fin rfl (EndOk.go ?_); exact .le (.same rfl)
  · have e : rawOf l v = v := by
      cases l with
      | nil => rfl
      | cons p r =>
        simp only [rawOf]
        rw [if_neg]
        intro h0
        simp at hc h0; exact absurd hc (by simp [h0])
    rw [e] at h ⊢
    refine fR rfl ?_
    refine Mid.call (h) rfl rfl rfl rfl ?_
    refine fM rfl ?_
    refine Run.fin rfl (EndOk.go ?_); exact .le (.same rfl)
theorem rMarkT_ok (H : Pr P) (paths : List (List Hop)) (hP : PathsOk paths) (k : Nat) (l : List Pick) (v : Val) (hk : SizeOf.sizeOf (rawOf l v) ≤ k) (hO : ∀ p, p ∈ l → p.Ok) (hon : ∀ p, p ∈ l → p.on.length ≤ 9223372036854775807) (hn : Pick.cnts l ≤ 10000) (ho : v.Ok) :
    FnOk P 25 [.t (.lst (l.map Pick.enc)), .t (.lst (paths.map pE)), v.v] ⟨[], 0⟩ { v := (markT paths k l v).v } := by
  have hll := Pick.cnts_len l
  have h := rMark_ok H paths hP k l (rawOf l v) [] hk hO (by simpa using hn) (rawOf_ok ho hon)
  unfold MarkR at h
  unfold markT
  refine FnOk.run H.i25 H.mixed rfl rfl ?_
  refine fR rfl ?_
  refine lMG rfl rfl rfl rfl ?_
  refine fM rfl ?_
  refine Run.cond rfl rfl (fun hc => ?_) (fun hc => ?_)
  · have hc' : v.kind = 0 ∧ 0 < l.length := by simp at hc; omega
    obtain ⟨p, r, rfl⟩ : ∃ p r, l = p :: r := by
      cases l with
      | nil => simp at hc'
      | cons p r => exact ⟨p, r, rfl⟩
    have e : rawOf (p :: r) v = .mk 6 0 [] [textV p.on] [tS] := by simp only [rawOf]; rw [if_pos (by simp [hc'.1])]
    rw [e] at h ⊢
    generalize markF paths k (p :: r) (Val.mk 6 0 [] [textV p.on] [tS]) [] = y at h
    refine fR rfl ?_
    refine Mid.elemMapC (Pick.enc_eq p) rfl rfl rfl (show (p :: r)[0]? = some p from rfl) rfl rfl ?_
    refine fM rfl ?_
    refine Mid.call (h) rfl rfl rfl rfl ?_
    refine fM rfl ?_
    refine Run.fin rfl (EndOk.go ?_); exact .le (.same rfl)
  · have e : rawOf l v = v := by
      cases l with
      | nil => rfl
      | cons p r =>
        simp only [rawOf]
        rw [if_neg]
        intro h0
        simp at hc h0; exact absurd hc (by simp [h0])
    rw [e] at h ⊢
    refine fR rfl ?_
    refine Mid.call (h) rfl rfl rfl rfl ?_
    refine fM rfl ?_
    refine Run.fin rfl (EndOk.go ?_); exact .le (.same rfl)
end Go.GB.C43

/-
  A43J: contracts of chapters 43's functions: equality.
-/
namespace Go.GB.C43
open Go.GB
set_option linter.unusedSimpArgs false
set_option linter.unusedVariables false
set_option maxRecDepth 100000
set_option maxHeartbeats 2000000
variable {P : Program}

mutual
def eqb : Val → Val → Bool
  | .mk k i t its ks, .mk k' i' t' its' ks' => (k == k') && (i == i') && (t == t') && eqbs its its' && (ks == ks')
def eqbs : List Val → List Val → Bool
  | [], [] => true
  | a :: r, b :: s => eqb a b && eqbs r s
  | _, _ => false
end
theorem eqb_spec : ∀ (n : Nat), (∀ a b : Val, SizeOf.sizeOf a ≤ n → (eqb a b = true ↔ a = b)) ∧ ∀ a b : List Val, SizeOf.sizeOf a ≤ n → (eqbs a b = true ↔ a = b)
  | 0 => ⟨fun a b h => by cases a; simp at h, fun a b h => by cases a <;> simp at h⟩
  | n + 1 => by
    obtain ⟨h1, h2⟩ := eqb_spec n
    refine ⟨fun a b h => ?_, fun a b h => ?_⟩
    · cases a with
      | mk k i t its ks =>
        cases b with
        | mk k' i' t' its' ks' =>
          have := h2 its its' (by simp at h; omega)
          simp [eqb, this, and_assoc]
    · cases a with
      | nil => cases b <;> simp [eqbs]
      | cons x r =>
        cases b with
        | nil => simp [eqbs]
        | cons y s =>
          have a1 := h1 x y (by simp at h; omega)
          have a2 := h2 r s (by simp at h; omega)
          simp [eqbs, a1, a2]
theorem eqb_iff (a b : Val) : eqb a b = true ↔ a = b := (eqb_spec _).1 a b (Nat.le_refl _)
instance valDec : DecidableEq Val := fun a b =>
  match h : eqb a b with
  | true => .isTrue ((eqb_iff a b).1 h)
  | false => .isFalse (fun e => by rw [(eqb_iff a b).2 e] at h; cases h)

def eqHead (a b : Val) : Bool := (a.kind != b.kind) || (a.int != b.int) || (a.text != b.text) || (((a.items.length : Nat) : Int) != (b.items.length : Nat)) || (((a.keys.length : Nat) : Int) != (b.keys.length : Nat))
def EqualC (P : Program) (a b : Val) : Prop := FnOk P 26 [a.v, b.v] ⟨[], 0⟩ { v := .t (.bool (decide (a = b))) }
theorem equal_step (H : Pr P) (a b : Val) (ha : a.Ok) (hrec : ∀ x y, x ∈ a.items → EqualC P x y) : EqualC P a b := by
  have hil := ha.il
  have hkl := ha.kl
  unfold EqualC
  refine FnOk.run H.i26 H.mixed rfl rfl ?_
  refine fR rfl ?_
  refine lMG rfl rfl rfl rfl ?_
  refine fM rfl ?_
  refine lMG rfl rfl rfl rfl ?_
  refine fM rfl ?_
  refine lMG rfl rfl rfl rfl ?_
  refine fM rfl ?_
  refine lMG rfl rfl rfl rfl ?_
  refine fM rfl ?_
  refine Run.cond rfl rfl (fun h => ?_) (fun h => ?_)
  · have h' : eqHead a b = true := h
    have hne : ¬ a = b := by rintro rfl; simp [eqHead] at h'
    refine fR rfl ?_
    refine Run.fin rfl (EndOk.go ?_); exact .t (by simp [hne])
  · have h' : eqHead a b = false := h
    have hh : a.kind = b.kind ∧ a.int = b.int ∧ a.text = b.text ∧ a.items.length = b.items.length ∧ a.keys.length = b.keys.length := by
      simp [eqHead] at h'; exact ⟨h'.1.1.1.1, h'.1.1.1.2, h'.1.1.2, by omega, by omega⟩
    obtain ⟨e1, e2, e3, e4, e5⟩ := hh
    have hiff : (a = b) = (a.keys = b.keys ∧ a.items = b.items) := propext ⟨fun e => by rw [e]; exact ⟨rfl, rfl⟩, fun ⟨c1, c2⟩ => by
      rw [← Val.eta a, ← Val.eta b, e1, e2, e3, c1, c2]⟩
    refine fR rfl ?_
    refine rList a.keys (fun i (_ : Unit) => { env := [(2, .ptr 0 0), (3, .ptr 1 0), (5, .t (.int .i64 i))], s := ⟨[(0, .cells [.t (.int .i64 a.kind), .t (.int .i64 a.int), .t (.str a.text), .t (.lst (a.items.map Val.enc)), .t (.lst (a.keys.map sE))]), (1, .cells [.t (.int .i64 b.kind), .t (.int .i64 b.int), .t (.str b.text), .t (.lst (b.items.map Val.enc)), .t (.lst (b.keys.map sE))])], 2⟩ }) (fun r i _ => (a = b) = (r = b.keys.drop i ∧ a.items = b.items)) 2 () rfl (by simpa using hiff) rfl rfl rfl ?_ ?_
    · intro _ hk
      have hk' : (a = b) = (a.items = b.items) := by rw [hk, e5]; simp
      refine fR rfl ?_
      refine lM rfl rfl rfl ?_
      refine fM rfl ?_
      refine Run.condF rfl rfl (by simp) ?_
      refine fR rfl ?_
      refine rList a.items (fun i (_ : Unit) => { env := [(2, .ptr 0 0), (3, .ptr 1 0), (6, .t (.int .i64 i))], s := ⟨[(0, .cells [.t (.int .i64 a.kind), .t (.int .i64 a.int), .t (.str a.text), .t (.lst (a.items.map Val.enc)), .t (.lst (a.keys.map sE))]), (1, .cells [.t (.int .i64 b.kind), .t (.int .i64 b.int), .t (.str b.text), .t (.lst (b.items.map Val.enc)), .t (.lst (b.keys.map sE))])], 2⟩ }) (fun r i _ => (a = b) = (r = b.items.drop i)) 2 () rfl (by simpa using hk') rfl rfl rfl ?_ ?_
      · intro _ hi
        have : a = b := by rw [hi, e4]; simp
        refine fR rfl ?_
        refine lM rfl rfl rfl ?_
        refine fM rfl ?_
        refine Run.condF rfl rfl (by simp) ?_
        refine fR rfl ?_
        refine Run.fin rfl (EndOk.go ?_); exact .t (by simp [this])
      · intro i x r _ h1 hi hd hinv ih
        have h2 : b.items[i]? = some (b.items[i]'(by omega)) := by simp
        have hdb : b.items.drop i = b.items[i]'(by omega) :: b.items.drop (i + 1) := List.drop_eq_getElem_cons (by omega)
        generalize b.items[i]'(by omega) = y at h2 hdb
        have hc := hrec x y (List.mem_of_getElem? h1)
        unfold EqualC at hc
        refine fR rfl ?_
        refine lM rfl rfl rfl ?_
        refine fM rfl ?_
        refine Run.condT rfl rfl (by simp; omega) ?_
        refine fR rfl ?_
        refine Mid.elemMapC (Val.enc_eq x) rfl rfl rfl h1 rfl rfl ?_
        refine fM rfl ?_
        refine Mid.elemMapC (Val.enc_eq y) rfl rfl rfl h2 rfl rfl ?_
        refine fM rfl ?_
        refine Mid.call (hc) rfl rfl rfl rfl ?_
        refine fM rfl ?_
        refine Run.cond rfl rfl (fun hxy => ?_) (fun hxy => ?_)
        · have hne : ¬ x = y := by simpa using hxy
          have : ¬ a = b := by rw [hinv, hdb]; exact fun e => hne (List.cons.inj e).1
          refine fR rfl ?_
          refine Run.fin rfl (EndOk.go ?_); exact .t (by simp [this])
        · have he : x = y := by simpa using hxy
          refine fR rfl ?_
          refine aL rfl rfl rfl rfl rfl ?_
          refine fM rfl ?_
          exact rWeak 2 rfl (ih () (by rw [hinv, hdb, he]; simp)) rfl rfl rfl
    · intro i x r _ h1 hi hd hinv ih
      have h2 : b.keys[i]? = some (b.keys[i]'(by omega)) := by simp
      have hdb : b.keys.drop i = b.keys[i]'(by omega) :: b.keys.drop (i + 1) := List.drop_eq_getElem_cons (by omega)
      generalize b.keys[i]'(by omega) = y at h2 hdb
      refine fR rfl ?_
      refine lM rfl rfl rfl ?_
      refine fM rfl ?_
      refine Run.condT rfl rfl (by simp; omega) ?_
      refine fR rfl ?_
      refine Mid.elemMap rfl rfl rfl h1 rfl rfl ?_
      refine fM rfl ?_
      refine Mid.elemMap rfl rfl rfl h2 rfl rfl ?_
      refine fM rfl ?_
      refine Run.cond rfl rfl (fun hxy => ?_) (fun hxy => ?_)
      · have hne : ¬ x = y := by simpa using hxy
        have : ¬ a = b := by rw [hinv, hdb]; exact fun e => hne (List.cons.inj e.1).1
        refine fR rfl ?_
        refine Run.fin rfl (EndOk.go ?_); exact .t (by simp [this])
      · have he : x = y := by simpa using hxy
        refine fR rfl ?_
        refine aL rfl rfl rfl rfl rfl ?_
        refine fM rfl ?_
        exact rWeak 2 rfl (ih () (by rw [hinv, hdb, he]; simp)) rfl rfl rfl
theorem equal_ok' (H : Pr P) : ∀ (k : Nat) (a b : Val), SizeOf.sizeOf a ≤ k → a.Ok → EqualC P a b
  | 0, a, b, h, _ => by cases a; simp at h
  | k + 1, a, b, h, ha => equal_step H a b ha fun x y hx => equal_ok' H k x y (by have := Val.size_items a hx; omega) (ha.it x hx)
theorem equal_ok (H : Pr P) (a b : Val) (ha : a.Ok) : FnOk P 26 [a.v, b.v] ⟨[], 0⟩ { v := .t (.bool (decide (a = b))) } := equal_ok' H _ a b (Nat.le_refl _) ha

theorem ints_refl (H : Pr P) (n : Int) : FnOk P 123 [.t (.int .i64 n), .t (.int .i64 n)] ⟨[], 0⟩ { v := .t (.int .i64 0) } := by
  refine FnOk.run H.i123 H.mixed rfl rfl ?_
  refine fR rfl ?_
  refine Run.condF rfl rfl (by simp) ?_
  refine fR rfl ?_
  refine Run.condF rfl rfl (by simp) ?_
  refine fR rfl ?_
  refine Run.fin rfl (EndOk.go ?_); exact .t rfl
theorem sameI_refl (H : Pr P) (l : List Int) (hl : l.length ≤ 140737488355328) : FnOk P 102 [.t (.lst (l.map nE)), .t (.lst (l.map nE))] ⟨[], 0⟩ { v := .t (.bool true) } := by
  refine FnOk.run H.i102 H.mixed rfl rfl ?_
  refine fR rfl ?_
  refine lM rfl rfl rfl ?_
  refine fM rfl ?_
  refine lM rfl rfl rfl ?_
  refine fM rfl ?_
  refine Run.condF rfl rfl (by simp) ?_
  refine fR rfl ?_
  refine rList l (fun i (_ : Unit) => { env := [(0, .t (.lst (l.map nE))), (1, .t (.lst (l.map nE))), (5, .t (.int .i64 i))], s := ⟨[], 0⟩ }) (fun r i _ => True) 0 () rfl trivial rfl rfl rfl ?_ ?_
  · intro _ _
    refine fR rfl ?_
    refine lM rfl rfl rfl ?_
    refine fM rfl ?_
    refine Run.condF rfl rfl (by simp) ?_
    refine fR rfl ?_
    refine Run.fin rfl (EndOk.go ?_); exact .t rfl
  · intro i x r _ h1 hi hd _ ih
    refine fR rfl ?_
    refine lM rfl rfl rfl ?_
    refine fM rfl ?_
    refine Run.condT rfl rfl (by simp; omega) ?_
    refine fR rfl ?_
    refine Mid.elemMap rfl rfl rfl h1 rfl rfl ?_
    refine fM rfl ?_
    refine Mid.elemMap rfl rfl rfl h1 rfl rfl ?_
    refine fM rfl ?_
    refine Run.condF rfl rfl (by simp) ?_
    refine fR rfl ?_
    refine aL rfl rfl rfl rfl rfl ?_
    refine fM rfl ?_
    exact rWeak 0 rfl (ih () trivial) rfl rfl rfl
theorem sameRef_refl (H : Pr P) (r : Ref) (hr : r.Ok) : FnOk P 57 [r.v, r.v] ⟨[], 0⟩ { v := .t (.bool true) } := by
  have hl := hr.l
  refine FnOk.run H.i57 H.mixed rfl rfl ?_
  refine fR rfl ?_
  refine caG rfl rfl (fun hg => ⟨_, rfl, sameI_refl H r.wraps (by omega), rfl⟩) rfl rfl ?_
  refine fM rfl ?_
  refine Run.fin rfl (EndOk.go ?_); exact .t (by simp)
theorem samePaths_refl (H : Pr P) (l : List (List Hop)) (hl : PathsOk l) : FnOk P 22 [.t (.lst (l.map pE)), .t (.lst (l.map pE))] ⟨[], 0⟩ { v := .t (.bool true) } := by
  have hll := hl.l
  refine FnOk.run H.i22 H.mixed rfl rfl ?_
  refine fR rfl ?_
  refine lM rfl rfl rfl ?_
  refine fM rfl ?_
  refine lM rfl rfl rfl ?_
  refine fM rfl ?_
  refine Run.condF rfl rfl (by simp) ?_
  refine fR rfl ?_
  refine rList l (fun i (_ : Unit) => { env := [(0, .t (.lst (l.map pE))), (1, .t (.lst (l.map pE))), (5, .t (.int .i64 i))], s := ⟨[], 0⟩ }) (fun r i _ => True) 0 () rfl trivial rfl rfl rfl ?_ ?_
  · intro _ _
    refine fR rfl ?_
    refine lM rfl rfl rfl ?_
    refine fM rfl ?_
    refine Run.condF rfl rfl (by simp) ?_
    refine fR rfl ?_
    refine Run.fin rfl (EndOk.go ?_); exact .t rfl
  · intro i p r _ h1 hi hd _ ih
    have hpl := hl.p p (List.mem_of_getElem? h1)
    refine fR rfl ?_
    refine lM rfl rfl rfl ?_
    refine fM rfl ?_
    refine Run.condT rfl rfl (by simp; omega) ?_
    refine fR rfl ?_
    refine Mid.elemMap rfl rfl rfl h1 rfl rfl ?_
    refine fM rfl ?_
    refine lM rfl rfl rfl ?_
    refine fM rfl ?_
    refine Mid.elemMap rfl rfl rfl h1 rfl rfl ?_
    refine fM rfl ?_
    refine lM rfl rfl rfl ?_
    refine fM rfl ?_
    refine Run.condF rfl rfl (by simp) ?_
    refine fR rfl ?_
    refine rList p (fun k (_ : Unit) => { env := [(0, .t (.lst (l.map pE))), (1, .t (.lst (l.map pE))), (5, .t (.int .i64 i)), (6, .t (.int .i64 k))], s := ⟨[], 0⟩ }) (fun r i _ => True) 0 () rfl trivial rfl rfl rfl ?_ ?_
    · intro _ _
      refine fR rfl ?_
      refine Mid.elemMap rfl rfl rfl h1 rfl rfl ?_
      refine fM rfl ?_
      refine lM rfl rfl rfl ?_
      refine fM rfl ?_
      refine Run.condF rfl rfl (by simp) ?_
      refine fR rfl ?_
      refine aL rfl rfl rfl rfl rfl ?_
      refine fM rfl ?_
      exact rWeak 0 rfl (ih () trivial) rfl rfl rfl
    · intro k x r' _ hk1 hk hkd _ ihk
      refine fR rfl ?_
      refine Mid.elemMap rfl rfl rfl h1 rfl rfl ?_
      refine fM rfl ?_
      refine lM rfl rfl rfl ?_
      refine fM rfl ?_
      refine Run.condT rfl rfl (by simp; omega) ?_
      refine fR rfl ?_
      refine Mid.elemMap rfl rfl rfl h1 rfl rfl ?_
      refine fM rfl ?_
      refine Mid.elemMap rfl rfl rfl hk1 rfl rfl ?_
      refine fM rfl ?_
      refine Mid.elemMap rfl rfl rfl h1 rfl rfl ?_
      refine fM rfl ?_
      refine Mid.elemMap rfl rfl rfl hk1 rfl rfl ?_
      refine fM rfl ?_
      refine p0 rfl ?_
      refine fM rfl ?_
      refine Run.condF rfl rfl (by show (!(keyEq x.enc x.enc)) = false; rw [hop_eq]; simp) ?_
      refine fR rfl ?_
      refine aL rfl rfl rfl rfl rfl ?_
      refine fM rfl ?_
      exact rWeak 0 rfl (ihk () trivial) rfl rfl rfl
end Go.GB.C43

/-
  A40A: contracts of chapter 40's functions: weights and lengths.
-/
namespace Go.GB.C43
open Go.GB
set_option linter.unusedSimpArgs false
set_option linter.unusedVariables false
set_option maxRecDepth 100000
set_option maxHeartbeats 2000000
structure Pr40 (P : Program) : Prop extends Pr P where
  i8 : fnInfo P 8 = some (n8, c8.bare, r8)
  i9 : fnInfo P 9 = some (n9, c9.bare, r9)
  i10 : fnInfo P 10 = some (n10, c10.bare, r10)
  i11 : fnInfo P 11 = some (n11, c11.bare, r11)
  i12 : fnInfo P 12 = some (n12, c12.bare, r12)
  i32 : fnInfo P 32 = some (n32, c32.bare, r32)
  i33 : fnInfo P 33 = some (n33, c33.bare, r33)
  i34 : fnInfo P 34 = some (n34, c34.bare, r34)
  i35 : fnInfo P 35 = some (n35, c35.bare, r35)
  i36 : fnInfo P 36 = some (n36, c36.bare, r36)
  i37 : fnInfo P 37 = some (n37, c37.bare, r37)
  i38 : fnInfo P 38 = some (n38, c38.bare, r38)
  i39 : fnInfo P 39 = some (n39, c39.bare, r39)
  i40 : fnInfo P 40 = some (n40, c40.bare, r40)
  i41 : fnInfo P 41 = some (n41, c41.bare, r41)
  i42 : fnInfo P 42 = some (n42, c42.bare, r42)
  i43 : fnInfo P 43 = some (n43, c43.bare, r43)
  i44 : fnInfo P 44 = some (n44, c44.bare, r44)
  i45 : fnInfo P 45 = some (n45, c45.bare, r45)
  i62 : fnInfo P 62 = some (n62, c62.bare, r62)
  i63 : fnInfo P 63 = some (n63, c63.bare, r63)
  i64 : fnInfo P 64 = some (n64, c64.bare, r64)
  i65 : fnInfo P 65 = some (n65, c65.bare, r65)
  i66 : fnInfo P 66 = some (n66, c66.bare, r66)
  i67 : fnInfo P 67 = some (n67, c67.bare, r67)
  i68 : fnInfo P 68 = some (n68, c68.bare, r68)
  i69 : fnInfo P 69 = some (n69, c69.bare, r69)
  i70 : fnInfo P 70 = some (n70, c70.bare, r70)
  i71 : fnInfo P 71 = some (n71, c71.bare, r71)
  i72 : fnInfo P 72 = some (n72, c72.bare, r72)
  i73 : fnInfo P 73 = some (n73, c73.bare, r73)
  i74 : fnInfo P 74 = some (n74, c74.bare, r74)
  i75 : fnInfo P 75 = some (n75, c75.bare, r75)
  i76 : fnInfo P 76 = some (n76, c76.bare, r76)
  i77 : fnInfo P 77 = some (n77, c77.bare, r77)
  i78 : fnInfo P 78 = some (n78, c78.bare, r78)
  i79 : fnInfo P 79 = some (n79, c79.bare, r79)
  i80 : fnInfo P 80 = some (n80, c80.bare, r80)
  i81 : fnInfo P 81 = some (n81, c81.bare, r81)
  i82 : fnInfo P 82 = some (n82, c82.bare, r82)
  i83 : fnInfo P 83 = some (n83, c83.bare, r83)
  i85 : fnInfo P 85 = some (n85, c85.bare, r85)
  i87 : fnInfo P 87 = some (n87, c87.bare, r87)
  i106 : fnInfo P 106 = some (n106, c106.bare, r106)
  i107 : fnInfo P 107 = some (n107, c107.bare, r107)
  i108 : fnInfo P 108 = some (n108, c108.bare, r108)
  i109 : fnInfo P 109 = some (n109, c109.bare, r109)
  i110 : fnInfo P 110 = some (n110, c110.bare, r110)
  i111 : fnInfo P 111 = some (n111, c111.bare, r111)
  i112 : fnInfo P 112 = some (n112, c112.bare, r112)
  i113 : fnInfo P 113 = some (n113, c113.bare, r113)
  i115 : fnInfo P 115 = some (n115, c115.bare, r115)
  i129 : fnInfo P 129 = some (n129, c129.bare, r129)
  i130 : fnInfo P 130 = some (n130, c130.bare, r130)
  i131 : fnInfo P 131 = some (n131, c131.bare, r131)
variable {P : Program}
theorem min_if (x m : Int) : (if m < x then m else x) = min x m := by split <;> omega
def intS : Str := [73, 110, 116]
def strS : Str := [83, 116, 114, 105, 110, 103]
def boolS : Str := [66, 111, 111, 108, 101, 97, 110]
def idS : Str := [73, 68]
def costS : Str := [99, 111, 115, 116]
def weightS : Str := [119, 101, 105, 103, 104, 116]
def listS : Str := [108, 105, 115, 116, 83, 105, 122, 101]
def assumedS : Str := [97, 115, 115, 117, 109, 101, 100]
def firstS : Str := [102, 105, 114, 115, 116]

def scalarF (n : Str) : Bool := n == intS || n == strS || n == boolS || n == idS
theorem scalar_ok (H : Pr40 P) (n : Str) : FnOk P 108 [.t (.str n)] ⟨[], 0⟩ { v := .t (.bool (scalarF n)) } := by
  refine FnOk.run H.i108 H.mixed rfl rfl ?_
  refine fR rfl ?_
  refine Run.fin rfl (EndOk.go ?_); exact .t rfl
theorem rScalar_ok (H : Pr40 P) (n : Str) : FnOk P 109 [.t (.str n)] ⟨[], 0⟩ { v := .t (.bool (scalarF n)) } := by
  refine FnOk.run H.i109 H.mixed rfl rfl ?_
  refine fR rfl ?_
  refine Run.fin rfl (EndOk.go ?_); exact .t rfl
def kindF (ds : List Def) (n : Str) : Int := ((findDef n ds).getD Def.zero).kind
theorem kind_ok (H : Pr40 P) (ds : List Def) (ho : DocOk ds) (n : Str) : FnOk P 107 [docV ds, .t (.str n)] ⟨[], 0⟩ { v := .t (.int .i64 (kindF ds n)) } := by
  refine FnOk.run H.i107 H.mixed rfl rfl ?_
  refine fR rfl ?_
  refine Mid.call (find_ok H.toPr ds ho.l n) rfl rfl rfl rfl ?_
  refine fM rfl ?_
  refine Run.fin rfl (EndOk.go ?_); exact .t rfl
def compF (ds : List Def) (n : Str) : Bool := !scalarF n && (kindF ds n == 1 || kindF ds n == 2 || kindF ds n == 3)
theorem comp_ok (H : Pr40 P) (ds : List Def) (ho : DocOk ds) (n : Str) : FnOk P 69 [docV ds, .t (.str n)] ⟨[], 0⟩ { v := .t (.bool (compF ds n)) } := by
  refine FnOk.run H.i69 H.mixed rfl rfl ?_
  refine fR rfl ?_
  refine Mid.call (kind_ok H ds ho n) rfl rfl rfl rfl ?_
  refine fM rfl ?_
  refine Mid.call (scalar_ok H n) rfl rfl rfl rfl ?_
  refine fM rfl ?_
  refine Run.fin rfl (EndOk.go ?_); exact .t rfl
theorem rComp_ok (H : Pr40 P) (ds : List Def) (ho : DocOk ds) (n : Str) : FnOk P 72 [docV ds, .t (.str n)] ⟨[], 0⟩ { v := .t (.bool (compF ds n)) } := by
  have e : compF ds n = (!scalarF n && (findDef n ds).isSome && (kindF ds n == 1 || kindF ds n == 2 || kindF ds n == 3)) := by
    unfold compF kindF
    cases findDef n ds <;> simp [Def.zero]
  refine FnOk.run H.i72 H.mixed rfl rfl ?_
  refine fR rfl ?_
  refine Mid.call (rFind_ok H.toPr ds ho.l n) rfl rfl rfl rfl ?_
  refine fM rfl ?_
  refine Mid.call (rScalar_ok H n) rfl rfl rfl rfl ?_
  refine fM rfl ?_
  refine Run.fin rfl (EndOk.go ?_); exact .t (congrArg T.bool e.symm)
def fieldF (ds : List Def) (on n : Str) : Option Field := findField n ((findDef on ds).getD Def.zero).fields
theorem fieldF_ok {ds : List Def} (ho : DocOk ds) (on n : Str) : ((fieldF ds on n).getD Field.zero).Ok := fieldOk (defOk ho on) n
theorem field40_ok (H : Pr40 P) (ds : List Def) (ho : DocOk ds) (on n : Str) : FnOk P 67 [docV ds, .t (.str on), .t (.str n)] ⟨[], 0⟩ { v := .tup [((fieldF ds on n).getD Field.zero).v, .t (.bool (fieldF ds on n).isSome)] } := by
  have hd := defOk ho on
  refine FnOk.run H.i67 H.mixed rfl rfl ?_
  refine fR rfl ?_
  refine Mid.call (find_ok H.toPr ds ho.l on) rfl rfl rfl rfl ?_
  refine fM rfl ?_
  refine Run.cond rfl rfl (fun h => ?_) (fun h => ?_)
  · have h' : findDef on ds = none := by
      revert h; cases findDef on ds <;> simp
    have e : fieldF ds on n = none := by unfold fieldF; rw [h']; rfl
    rw [e]
    refine fR rfl ?_
    refine Run.fin rfl (EndOk.go ?_); exact .tup2 (.agg (.cons (.t rfl) (.cons (.nil rfl) (.cons (.t rfl) (.cons (.nil rfl) (.cons (.nil rfl) .nil)))))) (.t rfl)
  · refine fR rfl ?_
    refine Mid.call (fieldOf_ok H.toPr ((findDef on ds).getD Def.zero) hd.fl n) rfl rfl rfl rfl ?_
    refine fM rfl ?_
    refine Run.fin rfl (EndOk.go ?_); exact .tup2 (.le (.same rfl)) (.t rfl)
theorem rField40_ok (H : Pr40 P) (ds : List Def) (ho : DocOk ds) (on n : Str) : FnOk P 70 [docV ds, .t (.str on), .t (.str n)] ⟨[], 0⟩ { v := .tup [((fieldF ds on n).getD Field.zero).v, .t (.bool (fieldF ds on n).isSome)] } := by
  have hd := defOk ho on
  refine FnOk.run H.i70 H.mixed rfl rfl ?_
  refine fR rfl ?_
  refine Mid.call (rFind_ok H.toPr ds ho.l on) rfl rfl rfl rfl ?_
  refine fM rfl ?_
  refine Mid.call (rFieldOf_ok H.toPr ((findDef on ds).getD Def.zero) hd.fl n) rfl rfl rfl rfl ?_
  refine fM rfl ?_
  refine Run.fin rfl (EndOk.go ?_); exact .tup2 (.le (.same rfl)) (.t rfl)
theorem least_ok (H : Pr40 P) (a b : Int) : FnOk P 77 [.t (.int .i64 a), .t (.int .i64 b)] ⟨[], 0⟩ { v := .t (.int .i64 (min a b)) } := by
  refine FnOk.run H.i77 H.mixed rfl rfl ?_
  refine fR rfl ?_
  refine Run.cond rfl rfl (fun h => ?_) (fun h => ?_)
  · have h' : a < b := by simpa using h
    refine fR rfl ?_
    refine Run.fin rfl (EndOk.go ?_); exact .t (by rw [Int.min_eq_left (by omega)])
  · have h' : ¬ a < b := by simpa using h
    refine fR rfl ?_
    refine Run.fin rfl (EndOk.go ?_); exact .t (by rw [Int.min_eq_right (by omega)])
/-- an argument that is a number that is not negative -/
def noNum (l : List Dir) (n a : Str) : Bool := !(dirArg n a l).isSome || ((dirArg n a l).getD Val.zero).kind != 2 || decide (((dirArg n a l).getD Val.zero).int < 0)
def numF (l : List Dir) (n a : Str) : Int := if noNum l n a = true then 0 else min ((dirArg n a l).getD Val.zero).int 1099511627776
theorem number_ok (H : Pr40 P) (l : List Dir) (hl : l.length ≤ 140737488355328) (ho : ∀ d, d ∈ l → d.Ok) (n a : Str) : FnOk P 68 [.t (.lst (l.map Dir.enc)), .t (.str n), .t (.str a)] ⟨[], 0⟩ { v := .tup [.t (.int .i64 (numF l n a)), .t (.bool (!noNum l n a))] } := by
  refine FnOk.run H.i68 H.mixed rfl rfl ?_
  refine fR rfl ?_
  refine Mid.call (arg_ok H.toPr l hl ho n a) rfl rfl rfl rfl ?_
  refine fM rfl ?_
  refine Run.cond rfl rfl (fun h => ?_) (fun h => ?_)
  · have h' : noNum l n a = true := h
    have e : numF l n a = 0 := by unfold numF; rw [if_pos h']
    rw [h', e]
    refine fR rfl ?_
    refine Run.fin rfl (EndOk.go ?_); exact .tup2 (.t rfl) (.t rfl)
  · have h' : noNum l n a = false := h
    have e : numF l n a = min ((dirArg n a l).getD Val.zero).int 1099511627776 := by unfold numF; rw [h']; rfl
    rw [h', e]
    refine fR rfl ?_
    refine Run.fin rfl (EndOk.go ?_); exact .tup2 (.t (congrArg (T.int .i64) (min_if _ _))) (.t rfl)
theorem rNumber_ok (H : Pr40 P) (l : List Dir) (hl : l.length ≤ 140737488355328) (ho : ∀ d, d ∈ l → d.Ok) (n a : Str) : FnOk P 71 [.t (.lst (l.map Dir.enc)), .t (.str n), .t (.str a)] ⟨[], 0⟩ { v := .tup [.t (.int .i64 (numF l n a)), .t (.bool (!noNum l n a))] } := by
  refine FnOk.run H.i71 H.mixed rfl rfl ?_
  refine fR rfl ?_
  refine Mid.call (rArg_ok H.toPr l hl ho n a) rfl rfl rfl rfl ?_
  refine fM rfl ?_
  refine Run.cond rfl rfl (fun h => ?_) (fun h => ?_)
  · have h' : noNum l n a = true := h
    have e : numF l n a = 0 := by unfold numF; rw [if_pos h']
    rw [h', e]
    refine fR rfl ?_
    refine Run.fin rfl (EndOk.go ?_); exact .tup2 (.t rfl) (.t rfl)
  · have h' : noNum l n a = false := h
    have e : numF l n a = min ((dirArg n a l).getD Val.zero).int 1099511627776 := by unfold numF; rw [h']; rfl
    rw [h', e]
    refine fR rfl ?_
    refine Mid.call (least_ok H ((dirArg n a l).getD Val.zero).int 1099511627776) rfl rfl rfl rfl ?_
    refine fM rfl ?_
    refine Run.fin rfl (EndOk.go ?_); exact .tup2 (.t rfl) (.t rfl)
theorem numF_rng (l : List Dir) (n a : Str) : 0 ≤ numF l n a ∧ numF l n a ≤ 1099511627776 := by
  unfold numF
  split
  · simp
  · rename_i h
    simp [noNum] at h
    have := h.2
    omega
def wtF (ds : List Def) (on f : Str) : Int :=
  if (!(fieldF ds on f).isSome) = true then 0
  else if (!noNum ((fieldF ds on f).getD Field.zero).dirs costS weightS) = true then numF ((fieldF ds on f).getD Field.zero).dirs costS weightS
  else if compF ds ((fieldF ds on f).getD Field.zero).ty.name = true then 1 else 0
theorem wtF_rng (ds : List Def) (on f : Str) : 0 ≤ wtF ds on f ∧ wtF ds on f ≤ 1099511627776 := by
  have := numF_rng ((fieldF ds on f).getD Field.zero).dirs costS weightS
  unfold wtF
  split
  · simp
  · split
    · exact this
    · split <;> simp
theorem wt_ok (H : Pr40 P) (ds : List Def) (ho : DocOk ds) (on f : Str) : FnOk P 34 [docV ds, .t (.str on), .t (.str f)] ⟨[], 0⟩ { v := .t (.int .i64 (wtF ds on f)) } := by
  have hf := fieldF_ok ho on f
  refine FnOk.run H.i34 H.mixed rfl rfl ?_
  refine fR rfl ?_
  refine Mid.call (field40_ok H ds ho on f) rfl rfl rfl rfl ?_
  refine fM rfl ?_
  refine Run.cond rfl rfl (fun h => ?_) (fun h => ?_)
  · refine fR rfl ?_
    refine Run.fin rfl (EndOk.go ?_); exact .t (by unfold wtF; rw [if_pos h])
  · have h' : ¬ (!(fieldF ds on f).isSome) = true := by rw [h]; simp
    refine fR rfl ?_
    refine Mid.call (number_ok H ((fieldF ds on f).getD Field.zero).dirs hf.l hf.d costS weightS) rfl rfl rfl rfl ?_
    refine fM rfl ?_
    refine Run.cond rfl rfl (fun h2 => ?_) (fun h2 => ?_)
    · refine fR rfl ?_
      refine Run.fin rfl (EndOk.go ?_); exact .t (by unfold wtF; rw [if_neg h', if_pos h2])
    · have h2' : ¬ (!noNum ((fieldF ds on f).getD Field.zero).dirs costS weightS) = true := by rw [h2]; simp
      refine fR rfl ?_
      refine Mid.call (comp_ok H ds ho ((fieldF ds on f).getD Field.zero).ty.name) rfl rfl rfl rfl ?_
      refine fM rfl ?_
      refine Run.cond rfl rfl (fun h3 => ?_) (fun h3 => ?_)
      · refine fR rfl ?_
        refine Run.fin rfl (EndOk.go ?_); exact .t (by unfold wtF; rw [if_neg h', if_neg h2', if_pos h3])
      · have h3' : ¬ compF ds ((fieldF ds on f).getD Field.zero).ty.name = true := by rw [h3]; simp
        refine fR rfl ?_
        refine Run.fin rfl (EndOk.go ?_); exact .t (by unfold wtF; rw [if_neg h', if_neg h2', if_neg h3'])
theorem rWt_ok (H : Pr40 P) (ds : List Def) (ho : DocOk ds) (on f : Str) : FnOk P 35 [docV ds, .t (.str on), .t (.str f)] ⟨[], 0⟩ { v := .t (.int .i64 (wtF ds on f)) } := by
  have hf := fieldF_ok ho on f
  refine FnOk.run H.i35 H.mixed rfl rfl ?_
  refine fR rfl ?_
  refine Mid.call (rField40_ok H ds ho on f) rfl rfl rfl rfl ?_
  refine fM rfl ?_
  refine Run.cond rfl rfl (fun h => ?_) (fun h => ?_)
  · refine fR rfl ?_
    refine Run.fin rfl (EndOk.go ?_); exact .t (by unfold wtF; rw [if_pos h])
  · have h' : ¬ (!(fieldF ds on f).isSome) = true := by rw [h]; simp
    refine fR rfl ?_
    refine Mid.call (rNumber_ok H ((fieldF ds on f).getD Field.zero).dirs hf.l hf.d costS weightS) rfl rfl rfl rfl ?_
    refine fM rfl ?_
    refine Run.cond rfl rfl (fun h2 => ?_) (fun h2 => ?_)
    · refine fR rfl ?_
      refine Run.fin rfl (EndOk.go ?_); exact .t (by unfold wtF; rw [if_neg h', if_pos h2])
    · have h2' : ¬ (!noNum ((fieldF ds on f).getD Field.zero).dirs costS weightS) = true := by rw [h2]; simp
      refine fR rfl ?_
      refine Mid.call (rComp_ok H ds ho ((fieldF ds on f).getD Field.zero).ty.name) rfl rfl rfl rfl ?_
      refine fM rfl ?_
      refine Run.cond rfl rfl (fun h3 => ?_) (fun h3 => ?_)
      · refine fR rfl ?_
        refine Run.fin rfl (EndOk.go ?_); exact .t (by unfold wtF; rw [if_neg h', if_neg h2', if_pos h3])
      · have h3' : ¬ compF ds ((fieldF ds on f).getD Field.zero).ty.name = true := by rw [h3]; simp
        refine fR rfl ?_
        refine Run.fin rfl (EndOk.go ?_); exact .t (by unfold wtF; rw [if_neg h', if_neg h2', if_neg h3'])
end Go.GB.C43

/-
  A40B: contracts of chapter 40's functions: lengths, sums and products.
-/
namespace Go.GB.C43
open Go.GB
set_option linter.unusedSimpArgs false
set_option linter.unusedVariables false
set_option maxRecDepth 100000
set_option maxHeartbeats 2000000
variable {P : Program}

/-- the list levels -/
def levF : List Int → Nat
  | [] => 0
  | w :: r => if (w == 2) = true then levF r + 1 else levF r
theorem levF_le : ∀ l : List Int, levF l ≤ l.length
  | [] => by simp [levF]
  | w :: r => by
    have := levF_le r
    simp only [levF, List.length_cons]
    split <;> omega
theorem levels_ok (H : Pr40 P) (t : Ref) (ht : t.Ok) : FnOk P 73 [t.v] ⟨[], 0⟩ { v := .t (.int .i64 (levF t.wraps)) } := by
  have hl := ht.l
  refine FnOk.run H.i73 H.mixed rfl rfl ?_
  refine fR rfl ?_
  refine lM rfl rfl rfl ?_
  refine fM rfl ?_
  refine rList t.wraps (fun i (c : Nat) => { env := [(3, .t (.int .i64 c)), (7, .t (.lst (t.wraps.map nE))), (8, .t (.int .i64 t.wraps.length)), (9, .t (.int .i64 i))], s := ⟨[], 1⟩ }) (fun r i c => c ≤ i ∧ levF t.wraps = c + levF r) 1 0 rfl ⟨by simp, by simp⟩ rfl rfl rfl ?_ ?_
  · rintro c ⟨_, hc⟩
    refine fR rfl ?_
    refine Run.condF rfl rfl (by simp) ?_
    refine fR rfl ?_
    refine Run.fin rfl (EndOk.go ?_); exact .t (by rw [hc]; simp [levF])
  · rintro i x r c h1 hi hd ⟨hc1, hc2⟩ ih
    have hc1' : c ≤ i := hc1
    refine fR rfl ?_
    refine Run.condT rfl rfl (by simp; omega) ?_
    refine fR rfl ?_
    refine Mid.elemMap rfl rfl rfl h1 rfl rfl ?_
    refine fM rfl ?_
    refine Run.cond rfl rfl (fun h => ?_) (fun h => ?_)
    · refine fR rfl ?_
      refine aL rfl rfl rfl rfl rfl ?_
      refine fM rfl ?_
      refine aL rfl rfl rfl rfl rfl ?_
      refine fM rfl ?_
      exact rWeak 1 rfl (ih (c + 1) ⟨by omega, by rw [hc2]; simp only [levF]; rw [if_pos h]; omega⟩) rfl rfl rfl
    · have h' : ¬ (x == 2) = true := by rw [h]; simp
      refine fR rfl ?_
      refine aL rfl rfl rfl rfl rfl ?_
      refine fM rfl ?_
      exact rWeak 1 rfl (ih c ⟨by omega, by rw [hc2]; simp only [levF]; rw [if_neg h']⟩) rfl rfl rfl
theorem rLevels_ok (H : Pr40 P) (t : Ref) (ht : t.Ok) : FnOk P 76 [t.v] ⟨[], 0⟩ { v := .t (.int .i64 (levF t.wraps)) } := by
  have hl := ht.l
  refine FnOk.run H.i76 H.mixed rfl rfl ?_
  refine fR rfl ?_
  refine rList t.wraps (fun i (c : Nat) => { env := [(1, .ptr 0 0), (3, .t (.int .i64 c)), (4, .t (.int .i64 i))], s := ⟨[(0, .cells [.t (.str t.name), .t (.lst (t.wraps.map nE))])], 1⟩ }) (fun r i c => c ≤ i ∧ levF t.wraps = c + levF r) 1 0 rfl ⟨by simp, by simp⟩ rfl rfl rfl ?_ ?_
  · rintro c ⟨_, hc⟩
    refine fR rfl ?_
    refine lM rfl rfl rfl ?_
    refine fM rfl ?_
    refine Run.condF rfl rfl (by simp) ?_
    refine fR rfl ?_
    refine Run.fin rfl (EndOk.go ?_); exact .t (by rw [hc]; simp [levF])
  · rintro i x r c h1 hi hd ⟨hc1, hc2⟩ ih
    have hc1' : c ≤ i := hc1
    refine fR rfl ?_
    refine lM rfl rfl rfl ?_
    refine fM rfl ?_
    refine Run.condT rfl rfl (by simp; omega) ?_
    refine fR rfl ?_
    refine Mid.elemMap rfl rfl rfl h1 rfl rfl ?_
    refine fM rfl ?_
    refine Run.cond rfl rfl (fun h => ?_) (fun h => ?_)
    · refine fR rfl ?_
      refine aL rfl rfl rfl rfl rfl ?_
      refine fM rfl ?_
      refine aL rfl rfl rfl rfl rfl ?_
      refine fM rfl ?_
      exact rWeak 1 rfl (ih (c + 1) ⟨by omega, by rw [hc2]; simp only [levF]; rw [if_pos h]; omega⟩) rfl rfl rfl
    · have h' : ¬ (x == 2) = true := by rw [h]; simp
      refine fR rfl ?_
      refine aL rfl rfl rfl rfl rfl ?_
      refine fM rfl ?_
      exact rWeak 1 rfl (ih c ⟨by omega, by rw [hc2]; simp only [levF]; rw [if_neg h']⟩) rfl rfl rfl

theorem isFirst_ok (H : Pr40 P) (a : Arg) : FnOk P 75 [a.v] ⟨[], 0⟩ { v := .t (.bool (a.name == firstS)) } := by
  refine FnOk.run H.i75 H.mixed rfl rfl ?_
  refine fR rfl ?_
  refine Run.fin rfl (EndOk.go ?_); exact .t rfl
def idxF : Int → List Arg → Int
  | _, [] => -1
  | i, a :: l => if (a.name == firstS) = true then i else idxF (i + 1) l
theorem idxF_spec : ∀ (l : List Arg) (i : Int), 0 ≤ i → (idxF i l = -1 ∧ findArg firstS l = none) ∨ (∃ (k : Nat) (a : Arg), idxF i l = i + k ∧ l[k]? = some a ∧ findArg firstS l = some a.val)
  | [], i, h => .inl ⟨rfl, rfl⟩
  | a :: l, i, h => by
    by_cases ha : (a.name == firstS) = true
    · right
      refine ⟨0, a, ?_, rfl, ?_⟩
      · simp only [idxF]; rw [if_pos ha]; simp
      · simp only [findArg]; rw [if_pos ha]
    · have e1 : idxF i (a :: l) = idxF (i + 1) l := by simp only [idxF]; rw [if_neg ha]
      have e2 : findArg firstS (a :: l) = findArg firstS l := by simp only [findArg]; rw [if_neg ha]
      rw [e1, e2]
      rcases idxF_spec l (i + 1) (by omega) with ⟨h1, h2⟩ | ⟨k, b, h1, h2, h3⟩
      · exact .inl ⟨h1, h2⟩
      · exact .inr ⟨k + 1, b, by rw [h1]; simp; omega, by simpa using h2, h3⟩
theorem indexFirst_ok (H : Pr40 P) (l : List Arg) (hl : l.length ≤ 140737488355328) : FnOk P 74 [.t (.lst (l.map Arg.enc)), .t (.fn 75)] ⟨[], 0⟩ { v := .t (.int .i64 (idxF 0 l)) } := by
  refine FnOk.run H.i74 H.mixed rfl rfl ?_
  refine fR rfl ?_
  refine lM rfl rfl rfl ?_
  refine fM rfl ?_
  refine rList l (fun i (_ : Unit) => { env := [(0, .t (.lst (l.map Arg.enc))), (1, .t (.fn 75)), (7, .t (.int .i64 l.length)), (8, .t (.int .i64 i))], s := ⟨[], 0⟩ }) (fun r i _ => idxF 0 l = idxF i r) 0 () rfl rfl rfl rfl rfl ?_ ?_
  · intro _ hinv
    refine fR rfl ?_
    refine Run.condF rfl rfl (by simp) ?_
    refine fR rfl ?_
    refine Run.fin rfl (EndOk.go ?_); exact .t (by rw [hinv]; rfl)
  · intro i x r _ h1 hi hd hinv ih
    refine fR rfl ?_
    refine Run.condT rfl rfl (by simp; omega) ?_
    refine fR rfl ?_
    refine Mid.elemMap rfl rfl rfl h1 rfl rfl ?_
    refine fM rfl ?_
    refine Mid.callv0 rfl (isFirst_ok H x) rfl rfl rfl rfl ?_
    refine fM rfl ?_
    refine Run.cond rfl rfl (fun hc => ?_) (fun hc => ?_)
    · refine fR rfl ?_
      refine Run.fin rfl (EndOk.go ?_); exact .t (by rw [hinv]; simp only [idxF]; rw [if_pos hc])
    · refine fR rfl ?_
      refine aL rfl rfl rfl rfl rfl ?_
      refine fM rfl ?_
      have h' : ¬ (x.name == firstS) = true := by rw [hc]; simp
      exact rWeak 0 rfl (ih () (by rw [hinv]; simp only [idxF]; rw [if_neg h']; rfl)) rfl rfl rfl
end Go.GB.C43

/-
  A40C: contracts of chapter 40's functions: lengths, sums and products.
-/
namespace Go.GB.C43
open Go.GB
set_option linter.unusedSimpArgs false
set_option linter.unusedVariables false
set_option maxRecDepth 100000
set_option maxHeartbeats 2000000
variable {P : Program}

def assF (ds : List Def) (p : Pick) : Int :=
  if (!noNum ((fieldF ds p.on p.name).getD Field.zero).dirs listS assumedS) = true then numF ((fieldF ds p.on p.name).getD Field.zero).dirs listS assumedS else 10
def lenF (ds : List Def) (p : Pick) : Int :=
  if levF p.ty.wraps = 0 then 1
  else match findArg firstS p.args with
    | none => assF ds p
    | some v => if v.kind = 2 then min (max v.int 0) 1099511627776 else assF ds p
theorem assF_rng (ds : List Def) (p : Pick) : 0 ≤ assF ds p ∧ assF ds p ≤ 1099511627776 := by
  have := numF_rng ((fieldF ds p.on p.name).getD Field.zero).dirs listS assumedS
  unfold assF
  split
  · exact this
  · omega
theorem lenF_rng (ds : List Def) (p : Pick) : 0 ≤ lenF ds p ∧ lenF ds p ≤ 1099511627776 := by
  have := assF_rng ds p
  unfold lenF
  split
  · omega
  · split
    · exact this
    · split
      · omega
      · exact this
theorem length_ok (H : Pr40 P) (ds : List Def) (ho : DocOk ds) (p : Pick) (hp : p.Ok) : FnOk P 36 [docV ds, p.v] ⟨[], 0⟩ { v := .t (.int .i64 (lenF ds p)) } := by
  have hf := fieldF_ok ho p.on p.name
  have hpa := hp.al
  have hlv := levF_le p.ty.wraps
  have hlw := hp.t.l
  have hi := indexFirst_ok H p.args (by omega)
  refine FnOk.run H.i36 H.mixed rfl rfl ?_
  refine fR rfl ?_
  refine Mid.call (levels_ok H p.ty hp.t) rfl rfl rfl rfl ?_
  refine fM rfl ?_
  refine Run.cond rfl rfl (fun h => ?_) (fun h => ?_)
  · have h' : levF p.ty.wraps = 0 := by simpa using h
    refine fR rfl ?_
    refine Run.fin rfl (EndOk.go ?_); exact .t (by unfold lenF; rw [if_pos h'])
  · have h' : ¬ levF p.ty.wraps = 0 := by simpa using h
    refine fR rfl ?_
    rcases idxF_spec p.args 0 (by omega) with ⟨h1, h2⟩ | ⟨k, a, h1, h2, h3⟩
    · rw [h1] at hi
      have e : lenF ds p = assF ds p := by unfold lenF; rw [if_neg h', h2]
      refine Mid.call (hi) rfl rfl rfl rfl ?_
      refine fM rfl ?_
      generalize hb : decide ((-1 : Int) ≥ 0) = b
      obtain rfl : b = false := by rw [← hb]; rfl
      cases hr : p.args with
      | nil =>
          refine Mid.grdF rfl rfl rfl rfl rfl ?_
          refine Mid.grdF rfl rfl rfl rfl rfl ?_
          refine Mid.grdF rfl rfl rfl rfl rfl ?_
          refine Mid.grdF rfl rfl rfl rfl rfl ?_
          refine Mid.grdF rfl rfl rfl rfl rfl ?_
          refine fM rfl ?_
          refine Run.condF rfl rfl rfl ?_
          refine fR rfl ?_
          refine Mid.call (field40_ok H ds ho p.on p.name) rfl rfl rfl rfl ?_
          refine fM rfl ?_
          refine Mid.call (number_ok H ((fieldF ds p.on p.name).getD Field.zero).dirs hf.l hf.d listS assumedS) rfl rfl rfl rfl ?_
          refine fM rfl ?_
          refine Run.cond rfl rfl (fun h9 => ?_) (fun h9 => ?_)
          · refine fR rfl ?_
            refine Run.fin rfl (EndOk.go ?_); exact .t (by rw [e]; unfold assF; rw [if_pos h9])
          · have h9' : ¬ (!noNum ((fieldF ds p.on p.name).getD Field.zero).dirs listS assumedS) = true := by rw [h9]; simp
            refine fR rfl ?_
            refine Run.fin rfl (EndOk.go ?_); exact .t (by rw [e]; unfold assF; rw [if_neg h9'])
      | cons y ys =>
          refine gr rfl ?_
          refine fM rfl ?_
          refine Run.condF rfl rfl rfl ?_
          refine fR rfl ?_
          refine Mid.call (field40_ok H ds ho p.on p.name) rfl rfl rfl rfl ?_
          refine fM rfl ?_
          refine Mid.call (number_ok H ((fieldF ds p.on p.name).getD Field.zero).dirs hf.l hf.d listS assumedS) rfl rfl rfl rfl ?_
          refine fM rfl ?_
          refine Run.cond rfl rfl (fun h9 => ?_) (fun h9 => ?_)
          · refine fR rfl ?_
            refine Run.fin rfl (EndOk.go ?_); exact .t (by rw [e]; unfold assF; rw [if_pos h9])
          · have h9' : ¬ (!noNum ((fieldF ds p.on p.name).getD Field.zero).dirs listS assumedS) = true := by rw [h9]; simp
            refine fR rfl ?_
            refine Run.fin rfl (EndOk.go ?_); exact .t (by rw [e]; unfold assF; rw [if_neg h9'])
    · rw [h1] at hi
      simp only [Int.zero_add] at hi
      have hk : k < p.args.length := (List.getElem?_eq_some_iff.1 h2).1
      refine Mid.call (hi) rfl rfl rfl rfl ?_
      refine fM rfl ?_
      refine elG rfl rfl rfl rfl h2 rfl rfl ?_
      refine fM rfl ?_
      refine Run.cond rfl rfl (fun h4 => ?_) (fun h4 => ?_)
      · have h4' : a.val.kind = 2 := by simpa using h4
        refine fR rfl ?_
        refine Mid.elemMap rfl rfl rfl h2 rfl rfl ?_
        refine fM rfl ?_
        refine Run.fin rfl (EndOk.go ?_); exact .t (by unfold lenF; rw [if_neg h', h3]; simp only [h4']; simp <;> omega)
      · have h4' : ¬ a.val.kind = 2 := by
          intro h5; simp [h5] at h4
        have e : lenF ds p = assF ds p := by unfold lenF; rw [if_neg h', h3]; simp only [h4', if_false]
        refine fR rfl ?_
        refine Mid.call (field40_ok H ds ho p.on p.name) rfl rfl rfl rfl ?_
        refine fM rfl ?_
        refine Mid.call (number_ok H ((fieldF ds p.on p.name).getD Field.zero).dirs hf.l hf.d listS assumedS) rfl rfl rfl rfl ?_
        refine fM rfl ?_
        refine Run.cond rfl rfl (fun h9 => ?_) (fun h9 => ?_)
        · refine fR rfl ?_
          refine Run.fin rfl (EndOk.go ?_); exact .t (by rw [e]; unfold assF; rw [if_pos h9])
        · have h9' : ¬ (!noNum ((fieldF ds p.on p.name).getD Field.zero).dirs listS assumedS) = true := by rw [h9]; simp
          refine fR rfl ?_
          refine Run.fin rfl (EndOk.go ?_); exact .t (by rw [e]; unfold assF; rw [if_neg h9'])
theorem rLength_ok (H : Pr40 P) (ds : List Def) (ho : DocOk ds) (p : Pick) (hp : p.Ok) : FnOk P 37 [docV ds, p.v] ⟨[], 0⟩ { v := .t (.int .i64 (lenF ds p)) } := by
  have hf := fieldF_ok ho p.on p.name
  have hpa := hp.al
  have hlv := levF_le p.ty.wraps
  have hlw := hp.t.l
  refine FnOk.run H.i37 H.mixed rfl rfl ?_
  refine fR rfl ?_
  refine Mid.call (rLevels_ok H p.ty hp.t) rfl rfl rfl rfl ?_
  refine fM rfl ?_
  refine Run.cond rfl rfl (fun h => ?_) (fun h => ?_)
  · have h' : levF p.ty.wraps = 0 := by simpa using h
    refine fR rfl ?_
    refine Run.fin rfl (EndOk.go ?_); exact .t (by unfold lenF; rw [if_pos h'])
  · have h' : ¬ levF p.ty.wraps = 0 := by simpa using h
    refine fR rfl ?_
    refine rList p.args (fun i (_ : Unit) => { env := [(2, .ptr 0 0), (3, .ptr 1 0), (5, .t (.int .i64 i))], s := ⟨[(0, .cells [.t (.lst (ds.map Def.enc))]), (1, .cells [.t (.str p.key), .t (.str p.on), .t (.str p.name), .t (.lst (p.args.map Arg.enc)), .t (.str p.ty.name), .t (.lst (p.ty.wraps.map nE)), .t (.str p.label), .t (.int .i64 p.initial), .t (.lst (p.picks.map Pick.enc))])], 2⟩ }) (fun r i _ => findArg firstS p.args = findArg firstS r) 2 () rfl rfl rfl rfl rfl ?_ ?_
    · intro _ hinv
      have e : lenF ds p = assF ds p := by unfold lenF; rw [if_neg h', hinv]; rfl
      refine fR rfl ?_
      refine lM rfl rfl rfl ?_
      refine fM rfl ?_
      refine Run.condF rfl rfl (by simp) ?_
      refine fR rfl ?_
      refine Mid.call (rField40_ok H ds ho p.on p.name) rfl rfl rfl rfl ?_
      refine fM rfl ?_
      refine Mid.call (rNumber_ok H ((fieldF ds p.on p.name).getD Field.zero).dirs hf.l hf.d listS assumedS) rfl rfl rfl rfl ?_
      refine fM rfl ?_
      refine Run.cond rfl rfl (fun h9 => ?_) (fun h9 => ?_)
      · refine fR rfl ?_
        refine Run.fin rfl (EndOk.go ?_); exact .t (by rw [e]; unfold assF; rw [if_pos h9])
      · have h9' : ¬ (!noNum ((fieldF ds p.on p.name).getD Field.zero).dirs listS assumedS) = true := by rw [h9]; simp
        refine fR rfl ?_
        refine Run.fin rfl (EndOk.go ?_); exact .t (by rw [e]; unfold assF; rw [if_neg h9'])
    · intro i x r _ h1 hi hd hinv ih
      refine fR rfl ?_
      refine lM rfl rfl rfl ?_
      refine fM rfl ?_
      refine Run.condT rfl rfl (by simp; omega) ?_
      refine fR rfl ?_
      refine Mid.elemMap rfl rfl rfl h1 rfl rfl ?_
      refine fM rfl ?_
      refine Run.cond rfl rfl (fun hc => ?_) (fun hc => ?_)
      · refine fR rfl ?_
        refine aL rfl rfl rfl rfl rfl ?_
        refine fM rfl ?_
        have h2 : ¬ (x.name == firstS) = true := by simpa [firstS] using hc
        exact rWeak 2 rfl (ih () (by rw [hinv]; simp only [findArg]; rw [if_neg h2])) rfl rfl rfl
      · have h2 : (x.name == firstS) = true := by simpa [firstS] using hc
        have h3 : findArg firstS p.args = some x.val := by rw [hinv]; simp only [findArg]; rw [if_pos h2]
        refine fR rfl ?_
        refine Mid.elemMap rfl rfl rfl h1 rfl rfl ?_
        refine fM rfl ?_
        refine Run.cond rfl rfl (fun h4 => ?_) (fun h4 => ?_)
        · have h4' : x.val.kind = 2 ∧ x.val.int < 0 := by simpa using h4
          refine fR rfl ?_
          refine Run.fin rfl (EndOk.go ?_); exact .t (by unfold lenF; rw [if_neg h', h3]; simp only [h4'.1]; simp <;> omega)
        · have h4' : ¬ (x.val.kind = 2 ∧ x.val.int < 0) := by
            intro ⟨h5, h6⟩; simp [h5, h6] at h4
          refine fR rfl ?_
          refine Run.cond rfl rfl (fun h7 => ?_) (fun h7 => ?_)
          · have h7' : x.val.kind = 2 := by simpa using h7
            refine fR rfl ?_
            refine Mid.call (least_ok H x.val.int 1099511627776) rfl rfl rfl rfl ?_
            refine fM rfl ?_
            refine Run.fin rfl (EndOk.go ?_); exact .t (by unfold lenF; rw [if_neg h', h3]; simp only [h7']; simp <;> omega)
          · have h7' : ¬ x.val.kind = 2 := by simpa using h7
            have e : lenF ds p = assF ds p := by unfold lenF; rw [if_neg h', h3]; simp only [h7', if_false]
            refine fR rfl ?_
            refine Mid.call (rField40_ok H ds ho p.on p.name) rfl rfl rfl rfl ?_
            refine fM rfl ?_
            refine Mid.call (rNumber_ok H ((fieldF ds p.on p.name).getD Field.zero).dirs hf.l hf.d listS assumedS) rfl rfl rfl rfl ?_
            refine fM rfl ?_
            refine Run.cond rfl rfl (fun h9 => ?_) (fun h9 => ?_)
            · refine fR rfl ?_
              refine Run.fin rfl (EndOk.go ?_); exact .t (by rw [e]; unfold assF; rw [if_pos h9])
            · have h9' : ¬ (!noNum ((fieldF ds p.on p.name).getD Field.zero).dirs listS assumedS) = true := by rw [h9]; simp
              refine fR rfl ?_
              refine Run.fin rfl (EndOk.go ?_); exact .t (by rw [e]; unfold assF; rw [if_neg h9'])
end Go.GB.C43

/-
  A40D: contracts of chapter 40's functions: sums and products.
-/
namespace Go.GB.C43
open Go.GB
set_option linter.unusedSimpArgs false
set_option linter.unusedVariables false
set_option maxRecDepth 100000
set_option maxHeartbeats 2000000
variable {P : Program}

theorem add40_ok (H : Pr40 P) (a b : Int) (ha : 0 ≤ a ∧ a ≤ 1099511627776) (hb : 0 ≤ b ∧ b ≤ 1099511627776) : FnOk P 113 [.t (.int .i64 a), .t (.int .i64 b)] ⟨[], 0⟩ { v := .t (.int .i64 (min (a + b) 1099511627776)) } := by
  have e : IntKind.i64.wrap (a + b) = a + b := wrap64 (by omega) (by omega)
  refine FnOk.run H.i113 H.mixed rfl rfl ?_
  refine fR rfl ?_
  refine a64 rfl rfl rfl ?_
  refine Mid.call (least_ok H (a + b) 1099511627776) rfl rfl rfl rfl ?_
  refine fM rfl ?_
  refine Run.fin rfl (EndOk.go ?_); exact .t rfl
theorem min_mul {a b : Int} (ha : 0 < a) (h : b > 1099511627776 / a) : min (a * b) 1099511627776 = 1099511627776 := by
  have h1 := Int.lt_mul_ediv_self_add (x := 1099511627776) ha
  have h2 : a * (1099511627776 / a + 1) ≤ a * b := Int.mul_le_mul_of_nonneg_left (by omega) (by omega)
  rw [Int.mul_add, Int.mul_one] at h2
  omega
theorem min_mul' {a b : Int} (ha : 0 < a) (hb : 0 ≤ b) (h : ¬ b > 1099511627776 / a) : 0 ≤ a * b ∧ a * b ≤ 1099511627776 := by
  have h1 := Int.mul_ediv_self_le (x := 1099511627776) (k := a) (by omega)
  have h2 : a * b ≤ a * (1099511627776 / a) := Int.mul_le_mul_of_nonneg_left (by omega) (by omega)
  have h3 : 0 ≤ a * b := Int.mul_nonneg (by omega) hb
  omega
theorem times_step (f : FuncId) (hi : fnInfo P f = some (n129, c129.bare, r129)) (hm : P.follows .mixedOrders = true) (a b : Int) (ha : 0 ≤ a ∧ a ≤ 1099511627776) (hb : 0 ≤ b ∧ b ≤ 1099511627776) : FnOk P f [.t (.int .i64 a), .t (.int .i64 b)] ⟨[], 0⟩ { v := .t (.int .i64 (min (a * b) 1099511627776)) } := by
  have hq : Int.tdiv 1099511627776 a = 1099511627776 / a := Int.tdiv_eq_ediv_of_nonneg (by omega)
  have hqr : 0 ≤ 1099511627776 / a ∧ 1099511627776 / a ≤ 1099511627776 := ⟨Int.ediv_nonneg (by omega) ha.1, Int.ediv_le_self _ (by omega)⟩
  have e : IntKind.i64.wrap (Int.tdiv 1099511627776 a) = 1099511627776 / a := by rw [hq]; exact wrap64 (by omega) (by omega)
  refine FnOk.run hi hm rfl rfl ?_
  refine fR rfl ?_
  refine gr rfl ?_
  refine fM rfl ?_
  rw [e]
  refine Run.cond rfl rfl (fun h => ?_) (fun h => ?_)
  · have h' : a > 0 ∧ b > 1099511627776 / a := by simpa using h
    refine fR rfl ?_
    refine Run.fin rfl (EndOk.go ?_); exact .t (congrArg (T.int .i64) (min_mul h'.1 h'.2).symm)
  · have h' : ¬ (a > 0 ∧ b > 1099511627776 / a) := by
      intro h5; simp at h; omega
    have hr : 0 ≤ a * b ∧ a * b ≤ 1099511627776 := by
      by_cases h0 : a > 0
      · exact min_mul' h0 hb.1 (fun h6 => h' ⟨h0, h6⟩)
      · have : a = 0 := by omega
        subst this; simp
    have e2 : IntKind.i64.wrap (a * b) = a * b := wrap64 (by omega) (by omega)
    refine fR rfl ?_
    refine p0 rfl ?_
    refine fM rfl ?_
    rw [e2]
    refine Run.fin rfl (EndOk.go ?_); exact .t (congrArg (T.int .i64) (Int.min_eq_left hr.2).symm)
theorem times_ok (H : Pr40 P) (a b : Int) (ha : 0 ≤ a ∧ a ≤ 1099511627776) (hb : 0 ≤ b ∧ b ≤ 1099511627776) : FnOk P 129 [.t (.int .i64 a), .t (.int .i64 b)] ⟨[], 0⟩ { v := .t (.int .i64 (min (a * b) 1099511627776)) } :=
  times_step 129 H.i129 H.mixed a b ha hb
theorem rTimes_ok (H : Pr40 P) (a b : Int) (ha : 0 ≤ a ∧ a ≤ 1099511627776) (hb : 0 ≤ b ∧ b ≤ 1099511627776) : FnOk P 131 [.t (.int .i64 a), .t (.int .i64 b)] ⟨[], 0⟩ { v := .t (.int .i64 (min (a * b) 1099511627776)) } :=
  times_step 131 H.i131 H.mixed a b ha hb

/-- sums of a list -/
def sumI : Int → List Int → Int
  | s, [] => s
  | s, x :: r => sumI (min (s + x) 1099511627776) r
theorem sum_ok (H : Pr40 P) (l : List Int) (hl : l.length ≤ 140737488355328) (h : ∀ x, x ∈ l → 0 ≤ x ∧ x ≤ 1099511627776) : FnOk P 110 [.t (.lst (l.map nE))] ⟨[], 0⟩ { v := .t (.int .i64 (sumI 0 l)) } := by
  refine FnOk.run H.i110 H.mixed rfl rfl ?_
  refine fR rfl ?_
  refine lM rfl rfl rfl ?_
  refine fM rfl ?_
  refine rList l (fun i (s : Int) => { env := [(3, .t (.int .i64 s)), (6, .t (.lst (l.map nE))), (7, .t (.int .i64 l.length)), (8, .t (.int .i64 i))], s := ⟨[], 0⟩ }) (fun r i s => (0 ≤ s ∧ s ≤ 1099511627776) ∧ sumI 0 l = sumI s r) 0 0 rfl ⟨by omega, rfl⟩ rfl rfl rfl ?_ ?_
  · rintro s ⟨_, hs⟩
    refine fR rfl ?_
    refine Run.condF rfl rfl (by simp) ?_
    refine fR rfl ?_
    refine Run.fin rfl (EndOk.go ?_); exact .t (by rw [hs]; rfl)
  · rintro i x r s h1 hi hd ⟨hs1, hs2⟩ ih
    have hx := h x (List.mem_of_getElem? h1)
    have hs1' : 0 ≤ s ∧ s ≤ 1099511627776 := hs1
    have e : IntKind.i64.wrap (s + x) = s + x := wrap64 (by omega) (by omega)
    refine fR rfl ?_
    refine Run.condT rfl rfl (by simp; omega) ?_
    refine fR rfl ?_
    refine Mid.elemMap rfl rfl rfl h1 rfl rfl ?_
    refine fM rfl ?_
    refine a64 rfl rfl rfl ?_
    refine fM rfl ?_
    refine aL rfl rfl rfl rfl rfl ?_
    refine fM rfl ?_
    rw [min_if]
    exact rWeak 0 rfl (ih (min (s + x) 1099511627776) ⟨by omega, by rw [hs2]; rfl⟩) rfl rfl rfl
theorem sum2_ok (H : Pr40 P) (a b : Int) (ha : 0 ≤ a ∧ a ≤ 1099511627776) (hb : 0 ≤ b ∧ b ≤ 1099511627776) : FnOk P 110 [.t (.lst [[.int .i64 a], [.int .i64 b]])] ⟨[], 0⟩ { v := .t (.int .i64 (min (a + b) 1099511627776)) } := by
  have h := sum_ok H [a, b] (by simp) (by intro x hx; simp at hx; rcases hx with rfl | rfl <;> assumption)
  have e : sumI 0 [a, b] = min (a + b) 1099511627776 := by simp only [sumI]; omega
  rw [e] at h; exact h
theorem sum3_ok (H : Pr40 P) (a b c : Int) (ha : 0 ≤ a ∧ a ≤ 1099511627776) (hb : 0 ≤ b ∧ b ≤ 1099511627776) (hc : 0 ≤ c ∧ c ≤ 1099511627776) : FnOk P 110 [.t (.lst [[.int .i64 a], [.int .i64 b], [.int .i64 c]])] ⟨[], 0⟩ { v := .t (.int .i64 (min (a + b + c) 1099511627776)) } := by
  have h := sum_ok H [a, b, c] (by simp) (by intro x hx; simp at hx; rcases hx with rfl | rfl | rfl <;> assumption)
  have e : sumI 0 [a, b, c] = min (a + b + c) 1099511627776 := by simp only [sumI]; omega
  rw [e] at h; exact h

/-- a product, some times over -/
def pwF (n : Int) : Nat → Int → Int
  | 0, a => a
  | k + 1, a => pwF n k (min (a * n) 1099511627776)
theorem mul_rng {a b : Int} (ha : 0 ≤ a) (hb : 0 ≤ b) : 0 ≤ min (a * b) 1099511627776 ∧ min (a * b) 1099511627776 ≤ 1099511627776 := by
  have := Int.mul_nonneg ha hb
  omega
theorem pwF_rng {n : Int} (hn : 0 ≤ n) : ∀ (k : Nat) (a : Int), 0 ≤ a ∧ a ≤ 1099511627776 → 0 ≤ pwF n k a ∧ pwF n k a ≤ 1099511627776
  | 0, a, h => h
  | k + 1, a, h => pwF_rng hn k _ (mul_rng h.1 hn)
def elF (ds : List Def) (p : Pick) : Int := pwF (lenF ds p) (levF p.ty.wraps) 1
theorem elF_rng (ds : List Def) (p : Pick) : 0 ≤ elF ds p ∧ elF ds p ≤ 1099511627776 := pwF_rng (lenF_rng ds p).1 _ _ (by omega)
theorem elements_ok (H : Pr40 P) (ds : List Def) (ho : DocOk ds) (p : Pick) (hp : p.Ok) : FnOk P 130 [docV ds, p.v] ⟨[], 0⟩ { v := .t (.int .i64 (elF ds p)) } := by
  have hlr := lenF_rng ds p
  have hlv := levF_le p.ty.wraps
  have hlw := hp.t.l
  refine FnOk.run H.i130 H.mixed rfl rfl ?_
  refine fR rfl ?_
  refine Mid.call (length_ok H ds ho p hp) rfl rfl rfl rfl ?_
  refine fM rfl ?_
  refine Mid.call (levels_ok H p.ty hp.t) rfl rfl rfl rfl ?_
  refine fM rfl ?_
  refine rList (List.replicate (levF p.ty.wraps) ()) (fun i (a : Int) => { env := [(5, .t (.int .i64 a)), (6, .t (.int .i64 (lenF ds p))), (12, .t (.int .i64 (levF p.ty.wraps))), (13, .t (.int .i64 i))], s := ⟨[], 2⟩ }) (fun r i a => (0 ≤ a ∧ a ≤ 1099511627776) ∧ elF ds p = pwF (lenF ds p) r.length a) 2 1 rfl ⟨by omega, by simp [elF]⟩ rfl rfl rfl ?_ ?_
  · rintro a ⟨_, ha⟩
    refine fR rfl ?_
    refine Run.condF rfl rfl (by simp) ?_
    refine fR rfl ?_
    refine Run.fin rfl (EndOk.go ?_); exact .t (by rw [ha]; rfl)
  · rintro i x r a h1 hi hd ⟨ha1, ha2⟩ ih
    have ha1' : 0 ≤ a ∧ a ≤ 1099511627776 := ha1
    have hi' : i < levF p.ty.wraps := by simpa using hi
    refine fR rfl ?_
    refine Run.condT rfl rfl (by simp; omega) ?_
    refine fR rfl ?_
    refine Mid.call (times_ok H a (lenF ds p) ha1' hlr) rfl rfl rfl rfl ?_
    refine fM rfl ?_
    refine aL rfl rfl rfl rfl rfl ?_
    refine fM rfl ?_
    exact rWeak 2 rfl (ih (min (a * lenF ds p) 1099511627776) ⟨mul_rng ha1'.1 hlr.1, by rw [ha2]; rfl⟩) rfl rfl rfl
end Go.GB.C43

/-
  A40E: plain law of chapter 40: costs.
-/
namespace Go.GB.C43
open Go.GB
set_option linter.unusedSimpArgs false
set_option linter.unusedVariables false

/-- the sum of the costs of one type -/
def sumS (on : Str) : List (Str × Int) → Int → Int
  | [], s => s
  | x :: r, s => sumS on r (if (x.1 == on) = true then min (s + x.2) 1099511627776 else s)
def mxS (all : List (Str × Int)) : List (Str × Int) → Int → Int
  | [], m => m
  | x :: r, m => mxS all r (if sumS x.1 all 0 > m then sumS x.1 all 0 else m)
/-- the greatest sum of one type -/
def grF (l : List (Str × Int)) : Int := mxS l l 0
mutual
def costP (ds : List Def) : Pick → Int
  | .mk k o n a t lb i ps => min (wtF ds o n + min (elF ds (.mk k o n a t lb i []) * grF (costL ds ps)) 1099511627776) 1099511627776
def costL (ds : List Def) : List Pick → List (Str × Int)
  | [] => []
  | p :: r => (p.on, costP ds p) :: costL ds r
end
theorem costP_eq (ds : List Def) (p : Pick) : costP ds p = min (wtF ds p.on p.name + min (elF ds p * grF (costL ds p.picks)) 1099511627776) 1099511627776 := by
  cases p; simp only [costP, Pick.on, Pick.name, Pick.picks]; rfl
theorem costL_map (ds : List Def) : ∀ l : List Pick, costL ds l = l.map fun p => (p.on, costP ds p)
  | [] => rfl
  | p :: r => by simp [costL, costL_map ds r]
theorem costL_len (ds : List Def) (l : List Pick) : (costL ds l).length = l.length := by rw [costL_map]; simp

def Cs (l : List (Str × Int)) : Prop := ∀ x, x ∈ l → 0 ≤ x.2 ∧ x.2 ≤ 1099511627776
theorem Cs.tail {x : Str × Int} {l : List (Str × Int)} (h : Cs (x :: l)) : Cs l := fun y hy => h y (List.mem_cons_of_mem _ hy)
theorem sumS_rng (on : Str) : ∀ (l : List (Str × Int)) (s : Int), Cs l → 0 ≤ s ∧ s ≤ 1099511627776 → (0 ≤ sumS on l s ∧ sumS on l s ≤ 1099511627776) ∧ s ≤ sumS on l s
  | [], s, _, h => ⟨h, Int.le_refl _⟩
  | x :: r, s, hc, h => by
    have hx := hc x (List.mem_cons_self ..)
    simp only [sumS]
    split
    · have := sumS_rng on r (min (s + x.2) 1099511627776) hc.tail (by omega)
      exact ⟨this.1, by omega⟩
    · exact sumS_rng on r s hc.tail h
theorem sumS_append (on : Str) : ∀ (a b : List (Str × Int)) (s : Int), sumS on (a ++ b) s = sumS on b (sumS on a s)
  | [], b, s => rfl
  | x :: a, b, s => by simp only [List.cons_append, sumS]; exact sumS_append on a b _
theorem mxS_spec (all : List (Str × Int)) : ∀ (r : List (Str × Int)) (m : Int), m ≤ mxS all r m ∧ (∀ x, x ∈ r → sumS x.1 all 0 ≤ mxS all r m) ∧ (mxS all r m = m ∨ ∃ x, x ∈ r ∧ mxS all r m = sumS x.1 all 0)
  | [], m => ⟨Int.le_refl _, by simp, .inl rfl⟩
  | x :: r, m => by
    simp only [mxS]
    split
    · rename_i h
      obtain ⟨h1, h2, h3⟩ := mxS_spec all r (sumS x.1 all 0)
      refine ⟨by omega, fun y hy => ?_, ?_⟩
      · rcases List.mem_cons.1 hy with rfl | hy
        · exact h1
        · exact h2 y hy
      · rcases h3 with h3 | ⟨y, hy, h3⟩
        · exact .inr ⟨x, List.mem_cons_self .., h3⟩
        · exact .inr ⟨y, List.mem_cons_of_mem _ hy, h3⟩
    · rename_i h
      obtain ⟨h1, h2, h3⟩ := mxS_spec all r m
      refine ⟨h1, fun y hy => ?_, ?_⟩
      · rcases List.mem_cons.1 hy with rfl | hy
        · omega
        · exact h2 y hy
      · rcases h3 with h3 | ⟨y, hy, h3⟩
        · exact .inl h3
        · exact .inr ⟨y, List.mem_cons_of_mem _ hy, h3⟩
theorem grF_spec (l : List (Str × Int)) : 0 ≤ grF l ∧ (∀ x, x ∈ l → sumS x.1 l 0 ≤ grF l) ∧ (grF l = 0 ∨ ∃ x, x ∈ l ∧ grF l = sumS x.1 l 0) := mxS_spec l l 0
theorem grF_eq {l : List (Str × Int)} {g : Int} (h0 : 0 ≤ g) (h1 : ∀ x, x ∈ l → sumS x.1 l 0 ≤ g) (h2 : g = 0 ∨ ∃ x, x ∈ l ∧ g = sumS x.1 l 0) : grF l = g := by
  obtain ⟨a, b, c⟩ := grF_spec l
  have l1 : grF l ≤ g := by
    rcases c with c | ⟨x, hx, c⟩
    · omega
    · have := h1 x hx; omega
  have l2 : g ≤ grF l := by
    rcases h2 with h2 | ⟨x, hx, h2⟩
    · omega
    · have := b x hx; omega
  omega
theorem grF_rng {l : List (Str × Int)} (hc : Cs l) : 0 ≤ grF l ∧ grF l ≤ 1099511627776 := by
  obtain ⟨a, b, c⟩ := grF_spec l
  refine ⟨a, ?_⟩
  rcases c with c | ⟨x, hx, c⟩
  · omega
  · have := (sumS_rng x.1 l 0 hc (by omega)).1; omega
theorem sumS_snoc (on : Str) (l : List (Str × Int)) (x : Str × Int) : sumS on (l ++ [x]) 0 = if (x.1 == on) = true then min (sumS on l 0 + x.2) 1099511627776 else sumS on l 0 := by
  rw [sumS_append]; rfl
theorem grF_snoc {l : List (Str × Int)} {x : Str × Int} (hc : Cs (l ++ [x])) : grF (l ++ [x]) = max (grF l) (sumS x.1 (l ++ [x]) 0) := by
  have hl : Cs l := fun y hy => hc y (List.mem_append_left _ hy)
  have hx := hc x (by simp)
  obtain ⟨a, b, c⟩ := grF_spec l
  have hS := (sumS_rng x.1 (l ++ [x]) 0 hc (by omega)).1
  have hne : ∀ y : Str × Int, ¬ x.1 = y.1 → sumS y.1 (l ++ [x]) 0 = sumS y.1 l 0 := by
    intro y h; rw [sumS_snoc, if_neg (by simpa using h)]
  refine grF_eq (by omega) (fun y hy => ?_) ?_
  · by_cases e : x.1 = y.1
    · rw [← e]; omega
    · rw [hne y e]
      rcases List.mem_append.1 hy with hy | hy
      · have := b y hy; omega
      · simp at hy; subst hy; exact absurd rfl e
  · by_cases hg : grF l ≤ sumS x.1 (l ++ [x]) 0
    · exact .inr ⟨x, by simp, by omega⟩
    · rcases c with c | ⟨y, hy, c⟩
      · omega
      · have e : ¬ x.1 = y.1 := by
          intro e
          have hr := (sumS_rng x.1 l 0 hl (by omega)).1
          have h2 : sumS x.1 (l ++ [x]) 0 = min (sumS x.1 l 0 + x.2) 1099511627776 := by rw [sumS_snoc, if_pos (by simp)]
          rw [← e] at c; omega
        exact .inr ⟨y, List.mem_append_left _ hy, by rw [hne y e]; omega⟩
theorem costP_rng (ds : List Def) (p : Pick) : 0 ≤ costP ds p ∧ costP ds p ≤ 1099511627776 := by
  have h1 := wtF_rng ds p.on p.name
  have h2 := mul_rng (elF_rng ds p).1 (grF_spec (costL ds p.picks)).1
  rw [costP_eq]; omega
theorem costL_Cs (ds : List Def) (l : List Pick) : Cs (costL ds l) := by
  intro x hx
  rw [costL_map] at hx
  obtain ⟨p, _, rfl⟩ := List.mem_map.1 hx
  exact costP_rng ds p
theorem ofF_rng (ds : List Def) (l : List Pick) : 0 ≤ grF (costL ds l) ∧ grF (costL ds l) ≤ 1099511627776 := grF_rng (costL_Cs ds l)
end Go.GB.C43

/-
  A40F: contracts of chapter 40's functions: costs of picks (pick, greatest, the reference's cost and sum, Of).
-/
namespace Go.GB.C43
open Go.GB
set_option linter.unusedSimpArgs false
set_option linter.unusedVariables false
set_option maxRecDepth 100000
set_option maxHeartbeats 2000000
variable {P : Program}

theorem max_if (x m : Int) : (if x < m then m else x) = max x m := by split <;> omega
/-- the loop of greatest: a map of sums, the greatest sum -/
def grM : List (Str × Int) → List (Str × Int) → Int → Int
  | [], _, o => o
  | x :: r, L, o => grM r (kset x.1 (min ((kget x.1 L).getD 0 + x.2) 1099511627776) L) (max o (min ((kget x.1 L).getD 0 + x.2) 1099511627776))
theorem grM_eq : ∀ (r pre L : List (Str × Int)), Cs (pre ++ r) → (∀ on, (kget on L).getD 0 = sumS on pre 0) → grM r L (grF pre) = grF (pre ++ r)
  | [], pre, L, _, _ => by simp [grM]
  | x :: r, pre, L, hc, hL => by
    have e : sumS x.1 (pre ++ [x]) 0 = min ((kget x.1 L).getD 0 + x.2) 1099511627776 := by rw [sumS_snoc, if_pos (by simp), hL]
    have hc1 : Cs (pre ++ [x]) := fun y hy => hc y (by simp at hy ⊢; rcases hy with h | h; exact .inl h; exact .inr (.inl h))
    have ih := grM_eq r (pre ++ [x]) (kset x.1 (min ((kget x.1 L).getD 0 + x.2) 1099511627776) L) (by simpa using hc) (by
      intro on
      rw [kget_kset, sumS_snoc]
      by_cases h : on = x.1
      · subst h; simp [hL]
      · have h' : ¬ x.1 = on := fun e => h e.symm
        simp [h, h', hL])
    simp only [grM]
    rw [grF_snoc hc1, e] at ih
    simpa using ih
theorem grM_start {l : List (Str × Int)} (hc : Cs l) : grM l [] 0 = grF l := by
  have := grM_eq l [] [] (by simpa using hc) (by intro on; simp [kget, sumS])
  exact this

def CostC (P : Program) (f : Nat) (ds : List Def) (p : Pick) : Prop := FnOk P f [docV ds, p.v] ⟨[], 0⟩ { v := .t (.int .i64 (costP ds p)) }
def GreatC (P : Program) (f : Nat) (ds : List Def) (l : List Pick) : Prop := FnOk P f [docV ds, .t (.lst (l.map Pick.enc))] ⟨[], 0⟩ { v := .t (.int .i64 (grF (costL ds l))) }

theorem pick_step (H : Pr40 P) (ds : List Def) (ho : DocOk ds) (p : Pick) (hp : p.Ok) (hrec : GreatC P 78 ds p.picks) : CostC P 111 ds p := by
  have hw := wtF_rng ds p.on p.name
  have he := elF_rng ds p
  have hg := ofF_rng ds p.picks
  have hm := mul_rng he.1 hg.1
  unfold CostC
  refine FnOk.run H.i111 H.mixed rfl rfl ?_
  refine fR rfl ?_
  refine Mid.call (wt_ok H ds ho p.on p.name) rfl rfl rfl rfl ?_
  refine fM rfl ?_
  refine Mid.call (elements_ok H ds ho p hp) rfl rfl rfl rfl ?_
  refine fM rfl ?_
  refine Mid.call (hrec) rfl rfl rfl rfl ?_
  skip
  refine Mid.call (times_ok H (elF ds p) (grF (costL ds p.picks)) he hg) rfl rfl rfl rfl ?_
  refine Mid.bslP rfl rfl rfl ?_
  refine Mid.call (sum2_ok H (wtF ds p.on p.name) (min (elF ds p * grF (costL ds p.picks)) 1099511627776) hw hm) rfl rfl rfl rfl ?_
  refine fM rfl ?_
  refine Run.fin rfl (EndOk.go ?_); exact .t (by rw [costP_eq])

theorem great_step (H : Pr40 P) (ds : List Def) (ho : DocOk ds) (l : List Pick) (hll : l.length * 160 ≤ 140737488355328) (hrec : ∀ p, p ∈ l → CostC P 111 ds p) : GreatC P 78 ds l := by
  unfold GreatC
  refine FnOk.run H.i78 H.mixed rfl rfl ?_
  refine fR rfl ?_
  refine Mid.mkmapT sE iE rfl ?_
  refine fM rfl ?_
  refine lM rfl rfl rfl ?_
  refine fM rfl ?_
  refine rList l (fun i (b : List (Str × Int) × Int) => { env := [(2, .ptr 0 0), (5, .mp 1), (6, .t (.int .i64 b.2)), (10, .t (.lst (l.map Pick.enc))), (11, .t (.int .i64 l.length)), (12, .t (.int .i64 i))], s := ⟨[(0, .cells [.t (.lst (ds.map Def.enc))]), (1, .map false (mE sE iE b.1) none)], 2⟩ }) (fun r i b => (∀ on, 0 ≤ (kget on b.1).getD 0 ∧ (kget on b.1).getD 0 ≤ 1099511627776) ∧ grF (costL ds l) = grM (costL ds r) b.1 b.2) 2 ([], 0) rfl ⟨by intro on; simp [kget], (grM_start (costL_Cs ds l)).symm⟩ rfl rfl rfl ?_ ?_
  · rintro ⟨L, o⟩ ⟨_, ho⟩
    refine fR rfl ?_
    refine Run.condF rfl rfl (by simp) ?_
    refine fR rfl ?_
    refine Run.fin rfl (EndOk.go ?_); exact .t (by rw [ho]; rfl)
  · rintro i x r ⟨L, o⟩ h1 hi hd ⟨hL, ho⟩ ih
    have hx := hrec x (List.mem_of_getElem? h1)
    unfold CostC at hx
    have hL' : ∀ on, 0 ≤ (kget on L).getD 0 ∧ (kget on L).getD 0 ≤ 1099511627776 := hL
    have hc := costP_rng ds x
    have hs := hL' x.on
    refine fR rfl ?_
    refine Run.condT rfl rfl (by simp; omega) ?_
    refine fR rfl ?_
    refine Mid.elemMapC (Pick.enc_eq x) rfl rfl rfl h1 rfl rfl ?_
    refine fM rfl ?_
    refine Mid.lookT (x.on) rfl rfl rfl rfl rfl (sE_ok) rfl ?_
    refine fM rfl ?_
    refine Mid.call hx rfl rfl rfl rfl ?_
    refine Mid.bslP rfl rfl rfl ?_
    refine Mid.call (sum2_ok H ((kget x.on L).getD 0) (costP ds x) hs hc) rfl rfl rfl rfl ?_
    skip
    refine Mid.mapT (x.on) rfl rfl rfl rfl (sE_ok) rfl ?_
    refine fM rfl ?_
    refine Mid.lookT (x.on) rfl rfl rfl rfl rfl (sE_ok) rfl ?_
    refine fM rfl ?_
    refine aL rfl rfl rfl rfl rfl ?_
    refine fM rfl ?_
    rw [show (kget x.on (kset x.on (min ((kget x.on L).getD 0 + costP ds x) 1099511627776) L)).getD 0 = min ((kget x.on L).getD 0 + costP ds x) 1099511627776 from by rw [kget_kset]; simp, max_if]
    exact rWeak 2 rfl (ih (kset x.on (min ((kget x.on L).getD 0 + costP ds x) 1099511627776) L, max o (min ((kget x.on L).getD 0 + costP ds x) 1099511627776)) ⟨by intro on; rw [kget_kset]; split; simp; omega; exact hL' on, by rw [ho]; rfl⟩) rfl rfl rfl

theorem rElements (H : Pr40 P) (ds : List Def) (ho : DocOk ds) (p : Pick) (hp : p.Ok) (hrec : GreatC P 79 ds p.picks) : CostC P 112 ds p := by
  have hw := wtF_rng ds p.on p.name
  have he := elF_rng ds p
  have hg := ofF_rng ds p.picks
  have hm := mul_rng he.1 hg.1
  have hlr := lenF_rng ds p
  have hlv := levF_le p.ty.wraps
  have hlw := hp.t.l
  unfold CostC
  refine FnOk.run H.i112 H.mixed rfl rfl ?_
  refine fR rfl ?_
  refine rList (List.replicate (levF p.ty.wraps) ()) (fun i (a : Int) => { env := [(2, .ptr 0 0), (3, .ptr 1 0), (5, .t (.int .i64 a)), (6, .t (.int .i64 i))], s := ⟨[(0, .cells [.t (.lst (ds.map Def.enc))]), (1, .cells [.t (.str p.key), .t (.str p.on), .t (.str p.name), .t (.lst (p.args.map Arg.enc)), .t (.str p.ty.name), .t (.lst (p.ty.wraps.map nE)), .t (.str p.label), .t (.int .i64 p.initial), .t (.lst (p.picks.map Pick.enc))])], 2⟩ }) (fun r i a => (0 ≤ a ∧ a ≤ 1099511627776) ∧ elF ds p = pwF (lenF ds p) r.length a) 2 1 rfl ⟨by omega, by simp [elF]⟩ rfl rfl rfl ?_ ?_
  · rintro a ⟨_, ha⟩
    refine fR rfl ?_
    refine Mid.call (rLevels_ok H p.ty hp.t) rfl rfl rfl rfl ?_
    refine fM rfl ?_
    refine Run.condF rfl rfl (by simp) ?_
    refine fR rfl ?_
    obtain rfl : a = elF ds p := by rw [ha]; rfl
    refine Mid.call (rWt_ok H ds ho p.on p.name) rfl rfl rfl rfl ?_
    refine fM rfl ?_
    refine Mid.call (hrec) rfl rfl rfl rfl ?_
    skip
    refine Mid.call (rTimes_ok H (elF ds p) (grF (costL ds p.picks)) he hg) rfl rfl rfl rfl ?_
    skip
    refine Mid.call (add40_ok H (wtF ds p.on p.name) (min (elF ds p * grF (costL ds p.picks)) 1099511627776) hw hm) rfl rfl rfl rfl ?_
    refine fM rfl ?_
    refine Run.fin rfl (EndOk.go ?_); exact .t (by rw [costP_eq])
  · rintro i x r a h1 hi hd ⟨ha1, ha2⟩ ih
    have ha1' : 0 ≤ a ∧ a ≤ 1099511627776 := ha1
    have hi' : i < levF p.ty.wraps := by simpa using hi
    refine fR rfl ?_
    refine Mid.call (rLevels_ok H p.ty hp.t) rfl rfl rfl rfl ?_
    refine fM rfl ?_
    refine Run.condT rfl rfl (by simp; omega) ?_
    refine fR rfl ?_
    refine Mid.call (rLength_ok H ds ho p hp) rfl rfl rfl rfl ?_
    skip
    refine Mid.call (rTimes_ok H a (lenF ds p) ha1' hlr) rfl rfl rfl rfl ?_
    refine fM rfl ?_
    refine aL rfl rfl rfl rfl rfl ?_
    refine fM rfl ?_
    exact rWeak 2 rfl (ih (min (a * lenF ds p) 1099511627776) ⟨mul_rng ha1'.1 hlr.1, by rw [ha2]; rfl⟩) rfl rfl rfl

theorem rSum_step (H : Pr40 P) (ds : List Def) (ho : DocOk ds) (l : List Pick) (hll : l.length * 160 ≤ 140737488355328) (hrec : ∀ p, p ∈ l → CostC P 112 ds p) : GreatC P 79 ds l := by
  unfold GreatC
  refine FnOk.run H.i79 H.mixed rfl rfl ?_
  refine fR rfl ?_
  refine rList l (fun i (c : List Int) => { env := [(1, .t (.lst (l.map Pick.enc))), (2, .ptr 0 0), (5, .own 1 1 (c.map nE)), (6, .t (.int .i64 i))], s := ⟨[(0, .cells [.t (.lst (ds.map Def.enc))]), (1, .arr c.length)], 2⟩ }) (fun r i c => c.length = i ∧ c ++ r.map (costP ds) = l.map (costP ds)) 1 [] rfl ⟨by simp, by simp⟩ rfl rfl rfl ?_ ?_
  · rintro c ⟨_, hc⟩
    obtain rfl : c = l.map (costP ds) := by simpa using hc
    refine fR rfl ?_
    refine lM rfl rfl rfl ?_
    refine fM rfl ?_
    refine Run.condF rfl rfl (by simp) ?_
    refine fR rfl ?_
    refine rList l (fun i (m : Int) => { env := [(1, .t (.lst (l.map Pick.enc))), (5, .t (.lst ((l.map (costP ds)).map nE))), (8, .t (.int .i64 m)), (9, .t (.int .i64 i))], s := ⟨[], 2⟩ }) (fun r i m => grF (costL ds l) = mxS (costL ds l) (costL ds r) m) 2 0 rfl rfl rfl rfl rfl ?_ ?_
    · rintro m hm
      refine fR rfl ?_
      refine lM rfl rfl rfl ?_
      refine fM rfl ?_
      refine Run.condF rfl rfl (by simp) ?_
      refine fR rfl ?_
      refine Run.fin rfl (EndOk.go ?_); exact .t (by rw [hm]; rfl)
    · rintro i x r m h1 hi hd hm ih
      refine fR rfl ?_
      refine lM rfl rfl rfl ?_
      refine fM rfl ?_
      refine Run.condT rfl rfl (by simp; omega) ?_
      refine fR rfl ?_
      refine rList l (fun k (n : Int) => { env := [(1, .t (.lst (l.map Pick.enc))), (5, .t (.lst ((l.map (costP ds)).map nE))), (8, .t (.int .i64 m)), (9, .t (.int .i64 i)), (10, .t (.int .i64 n)), (11, .t (.int .i64 k))], s := ⟨[], 2⟩ }) (fun r k n => (0 ≤ n ∧ n ≤ 1099511627776) ∧ sumS x.on (costL ds l) 0 = sumS x.on (costL ds r) n) 2 0 rfl ⟨by omega, rfl⟩ rfl rfl rfl ?_ ?_
      · rintro n ⟨_, hn⟩
        obtain rfl : n = sumS x.on (costL ds l) 0 := by rw [hn]; rfl
        refine fR rfl ?_
        refine lM rfl rfl rfl ?_
        refine fM rfl ?_
        refine Run.condF rfl rfl (by simp) ?_
        refine fR rfl ?_
        refine Run.cond rfl rfl (fun hg => ?_) (fun hg => ?_)
        · refine fR rfl ?_
          refine aL rfl rfl rfl rfl rfl ?_
          refine fM rfl ?_
          exact rWeak 2 rfl (ih (sumS x.on (costL ds l) 0) (by rw [hm]; simp only [costL, mxS]; rw [if_pos (by simpa using hg)])) rfl rfl rfl
        · refine fR rfl ?_
          refine aL rfl rfl rfl rfl rfl ?_
          refine fM rfl ?_
          exact rWeak 2 rfl (ih m (by rw [hm]; simp only [costL, mxS]; rw [if_neg (by simpa using hg)])) rfl rfl rfl
      · rintro k y r2 n h2 hk hkd ⟨hn1, hn2⟩ ihk
        have hn1' : 0 ≤ n ∧ n ≤ 1099511627776 := hn1
        have h3 : (l.map (costP ds))[k]? = some (costP ds y) := by simp [List.getElem?_map, h2]
        have hy := costP_rng ds y
        refine fR rfl ?_
        refine lM rfl rfl rfl ?_
        refine fM rfl ?_
        refine Run.condT rfl rfl (by simp; omega) ?_
        refine fR rfl ?_
        refine Mid.elemMapC (Pick.enc_eq y) rfl rfl rfl h2 rfl rfl ?_
        refine fM rfl ?_
        refine Mid.elemMapC (Pick.enc_eq x) rfl rfl rfl h1 rfl rfl ?_
        refine fM rfl ?_
        refine Run.cond rfl rfl (fun he => ?_) (fun he => ?_)
        · refine fR rfl ?_
          refine Mid.elemMap rfl rfl rfl h3 rfl rfl ?_
          refine fM rfl ?_
          refine Mid.call (add40_ok H n (costP ds y) hn1' hy) rfl rfl rfl rfl ?_
          refine fM rfl ?_
          refine aL rfl rfl rfl rfl rfl ?_
          refine fM rfl ?_
          exact rWeak 2 rfl (ihk (min (n + costP ds y) 1099511627776) ⟨by omega, by rw [hn2]; simp only [costL, sumS]; rw [if_pos he]⟩) rfl rfl rfl
        · refine fR rfl ?_
          refine aL rfl rfl rfl rfl rfl ?_
          refine fM rfl ?_
          exact rWeak 2 rfl (ihk n ⟨hn1', by rw [hn2]; simp only [costL, sumS]; rw [if_neg (by simpa using he)]⟩) rfl rfl rfl
  · rintro i x r c h1 hi hd ⟨hcl, hc⟩ ih
    have hx := hrec x (List.mem_of_getElem? h1)
    unfold CostC at hx
    have hcl' : c.length = i := hcl
    refine fR rfl ?_
    refine lM rfl rfl rfl ?_
    refine fM rfl ?_
    refine Run.condT rfl rfl (by simp; omega) ?_
    refine fR rfl ?_
    refine Mid.elemMapC (Pick.enc_eq x) rfl rfl rfl h1 rfl rfl ?_
    refine fM rfl ?_
    refine Mid.call (hx) rfl rfl rfl rfl ?_
    refine fM rfl ?_
    refine apM nE c [costP ds x] rfl rfl rfl rfl rfl ?_
    refine fM rfl ?_
    refine aL rfl rfl rfl rfl rfl ?_
    refine fM rfl ?_
    exact rWeak 2 rfl (ih (c ++ [costP ds x]) ⟨by simp; omega, by rw [← hc]; simp⟩) rfl rfl rfl

theorem greatAll (H : Pr40 P) (ds : List Def) (ho : DocOk ds) : ∀ (k : Nat) (l : List Pick), Pick.cnts l < k → (∀ p, p ∈ l → p.Ok) → l.length * 160 ≤ 140737488355328 → GreatC P 78 ds l
  | 0, l, h, _, _ => by omega
  | k + 1, l, h, hO, hl => great_step H ds ho l hl fun p hp => by
    have hc := cnt_le hp
    have he := Pick.cnt_eq p
    exact pick_step H ds ho p (hO p hp) (greatAll H ds ho k p.picks (by omega) (hO p hp).p (hO p hp).pl)
theorem rSumAll (H : Pr40 P) (ds : List Def) (ho : DocOk ds) : ∀ (k : Nat) (l : List Pick), Pick.cnts l < k → (∀ p, p ∈ l → p.Ok) → l.length * 160 ≤ 140737488355328 → GreatC P 79 ds l
  | 0, l, h, _, _ => by omega
  | k + 1, l, h, hO, hl => rSum_step H ds ho l hl fun p hp => by
    have hc := cnt_le hp
    have he := Pick.cnt_eq p
    exact rElements H ds ho p (hO p hp) (rSumAll H ds ho k p.picks (by omega) (hO p hp).p (hO p hp).pl)
/-- Plain: kind and picks -/
def plainV (kd : Int) (l : List Pick) : V := .agg [.t (.int .i64 kd), .t (.lst (l.map Pick.enc))]
theorem of_ok (H : Pr40 P) (ds : List Def) (ho : DocOk ds) (kd : Int) (l : List Pick) (hO : ∀ p, p ∈ l → p.Ok) (hl : l.length * 160 ≤ 140737488355328) : FnOk P 38 [docV ds, plainV kd l] ⟨[], 0⟩ { v := .t (.int .i64 (grF (costL ds l))) } := by
  have h := greatAll H ds ho _ l (Nat.lt_succ_self _) hO hl
  unfold GreatC at h
  refine FnOk.run H.i38 H.mixed rfl rfl ?_
  refine fR rfl ?_
  refine Mid.call (h) rfl rfl rfl rfl ?_
  refine fM rfl ?_
  refine Run.fin rfl (EndOk.go ?_); exact .t rfl
theorem rOf_ok (H : Pr40 P) (ds : List Def) (ho : DocOk ds) (kd : Int) (l : List Pick) (hO : ∀ p, p ∈ l → p.Ok) (hl : l.length * 160 ≤ 140737488355328) : FnOk P 39 [docV ds, plainV kd l] ⟨[], 0⟩ { v := .t (.int .i64 (grF (costL ds l))) } := by
  have h := rSumAll H ds ho _ l (Nat.lt_succ_self _) hO hl
  unfold GreatC at h
  refine FnOk.run H.i39 H.mixed rfl rfl ?_
  refine fR rfl ?_
  refine Mid.call (h) rfl rfl rfl rfl ?_
  refine fM rfl ?_
  refine Run.fin rfl (EndOk.go ?_); exact .t rfl
end Go.GB.C43

/-
  A40G: contracts of chapter 40's functions: actual costs (typeOf, actual, Actual).
-/
namespace Go.GB.C43
open Go.GB
set_option linter.unusedSimpArgs false
set_option linter.unusedVariables false
set_option maxRecDepth 100000
set_option maxHeartbeats 2000000
variable {P : Program}

def typS : Str := [95, 95, 116]
/-- the text under __t -/
def tnF (v : Val) : Str := ((getV v typS).getD Val.zero).text
/-- there is a text under __t -/
def tokF (v : Val) : Bool := (getV v typS).isSome && ((getV v typS).getD Val.zero).kind == 3
theorem typeOf_ok (H : Pr40 P) (v : Val) (hv : v.Ok) : FnOk P 80 [v.v] ⟨[], 0⟩ { v := .tup [.t (.str (tnF v)), .t (.bool (tokF v))] } := by
  refine FnOk.run H.i80 H.mixed rfl rfl ?_
  refine fR rfl ?_
  refine Mid.call (get_ok H.toPr v hv typS) rfl rfl rfl rfl ?_
  refine fM rfl ?_
  refine Run.fin rfl (EndOk.go ?_); exact .tup2 (.t rfl) (.t rfl)
theorem typed_ok (H : Pr40 P) (v : Val) (hv : v.Ok) : FnOk P 82 [v.v] ⟨[], 0⟩ { v := .tup [.t (.str (tnF v)), .t (.bool (tokF v))] } := by
  refine FnOk.run H.i82 H.mixed rfl rfl ?_
  refine fR rfl ?_
  refine Mid.call (rGet_ok H.toPr v hv typS) rfl rfl rfl rfl ?_
  refine fM rfl ?_
  refine Run.fin rfl (EndOk.go ?_); exact .tup2 (.t rfl) (.t rfl)

/-- the actual cost of an object: the picks of its type, in order -/
def acL (ds : List Def) (g : List Pick → Val → Int) (v : Val) : List Pick → Int → Int
  | [], s => s
  | p :: r, s => acL ds g v r (if (p.on == tnF v) = true then min (s + wtF ds p.on p.name + ((getV v p.key).map (g p.picks)).getD 0) 1099511627776 else s)
def acF (ds : List Def) : Nat → List Pick → Val → Int
  | 0, _, _ => 0
  | k + 1, l, v => if (v.kind == 5) = true then sumI 0 (v.items.map (acF ds k l)) else if tokF v = true then acL ds (acF ds k) v l 0 else 0
theorem sumI_rng : ∀ (l : List Int) (s : Int), (∀ x, x ∈ l → 0 ≤ x ∧ x ≤ 1099511627776) → 0 ≤ s ∧ s ≤ 1099511627776 → 0 ≤ sumI s l ∧ sumI s l ≤ 1099511627776
  | [], s, _, h => h
  | x :: r, s, hl, h => by
    have hx := hl x (List.mem_cons_self ..)
    exact sumI_rng r _ (fun y hy => hl y (List.mem_cons_of_mem _ hy)) (by omega)
theorem opt_rng {o : Option Val} {g : Val → Int} (hg : ∀ x, 0 ≤ g x ∧ g x ≤ 1099511627776) : 0 ≤ (o.map g).getD 0 ∧ (o.map g).getD 0 ≤ 1099511627776 := by
  cases o with
  | none => simp
  | some x => exact hg x
theorem acL_rng (ds : List Def) (g : List Pick → Val → Int) (hg : ∀ l x, 0 ≤ g l x ∧ g l x ≤ 1099511627776) (v : Val) : ∀ (l : List Pick) (s : Int), 0 ≤ s ∧ s ≤ 1099511627776 → 0 ≤ acL ds g v l s ∧ acL ds g v l s ≤ 1099511627776
  | [], s, h => h
  | p :: r, s, h => by
    have h1 := wtF_rng ds p.on p.name
    have h2 := opt_rng (o := getV v p.key) (hg p.picks)
    refine acL_rng ds g hg v r _ ?_
    split <;> omega
theorem acF_rng (ds : List Def) : ∀ (k : Nat) (l : List Pick) (v : Val), 0 ≤ acF ds k l v ∧ acF ds k l v ≤ 1099511627776
  | 0, l, v => by simp [acF]
  | k + 1, l, v => by
    simp only [acF]
    split
    · exact sumI_rng _ _ (by intro x hx; obtain ⟨y, _, rfl⟩ := List.mem_map.1 hx; exact acF_rng ds k l y) (by omega)
    · split
      · exact acL_rng ds _ (fun l x => acF_rng ds k l x) v l 0 (by omega)
      · omega
def ActC (P : Program) (f : Nat) (ds : List Def) (l : List Pick) (v : Val) (n : Int) : Prop := FnOk P f [docV ds, .t (.lst (l.map Pick.enc)), v.v] ⟨[], 0⟩ { v := .t (.int .i64 n) }

theorem act_step (H : Pr40 P) (ds : List Def) (ho : DocOk ds) (k : Nat) (l : List Pick) (hll : l.length * 160 ≤ 140737488355328) (v : Val) (hv : v.Ok)
    (hrec : ∀ x, x ∈ v.items → ∀ l', (l' = l ∨ ∃ p, p ∈ l ∧ l' = p.picks) → ActC P 81 ds l' x (acF ds k l' x)) (hz : tokF v = true → ∀ p, p ∈ l → ActC P 81 ds p.picks Val.zero 0) : ActC P 81 ds l v (acF ds (k + 1) l v) := by
  have hil := hv.il
  unfold ActC
  refine FnOk.run H.i81 H.mixed rfl rfl ?_
  refine fR rfl ?_
  refine Run.cond rfl rfl (fun h5 => ?_) (fun h5 => ?_)
  · have e : acF ds (k + 1) l v = sumI 0 (v.items.map (acF ds k l)) := by simp only [acF]; rw [if_pos h5]
    refine fR rfl ?_
    refine lM rfl rfl rfl ?_
    refine fM rfl ?_
    refine rList v.items (fun i (s : Int) => { env := [(1, .t (.lst (l.map Pick.enc))), (3, .ptr 0 0), (7, .t (.int .i64 s)), (20, .t (.lst (v.items.map Val.enc))), (21, .t (.int .i64 v.items.length)), (22, .t (.int .i64 i))], s := ⟨[(0, .cells [.t (.lst (ds.map Def.enc))])], 2⟩ }) (fun r i s => (0 ≤ s ∧ s ≤ 1099511627776) ∧ acF ds (k + 1) l v = sumI s (r.map (acF ds k l))) 2 0 rfl ⟨by omega, e⟩ rfl rfl rfl ?_ ?_
    · rintro s ⟨_, hs⟩
      refine fR rfl ?_
      refine Run.condF rfl rfl (by simp) ?_
      refine fR rfl ?_
      refine Run.fin rfl (EndOk.go ?_); exact .t (by rw [hs]; rfl)
    · rintro i x r s h1 hi hd ⟨hs1, hs2⟩ ih
      have hx := hrec x (List.mem_of_getElem? h1) l (.inl rfl)
      unfold ActC at hx
      have hs1' : 0 ≤ s ∧ s ≤ 1099511627776 := hs1
      have hr := acF_rng ds k l x
      refine fR rfl ?_
      refine Run.condT rfl rfl (by simp; omega) ?_
      refine fR rfl ?_
      refine Mid.elemMapC (Val.enc_eq x) rfl rfl rfl h1 rfl rfl ?_
      refine fM rfl ?_
      refine Mid.call hx rfl rfl rfl rfl ?_
      refine Mid.bslP rfl rfl rfl ?_
      refine Mid.call (sum2_ok H s (acF ds k l x) hs1' hr) rfl rfl rfl rfl ?_
      refine fM rfl ?_
      refine aL rfl rfl rfl rfl rfl ?_
      refine fM rfl ?_
      exact rWeak 2 rfl (ih (min (s + acF ds k l x) 1099511627776) ⟨by omega, by rw [hs2]; rfl⟩) rfl rfl rfl
  · have h5' : ¬ (v.kind == 5) = true := by rw [h5]; simp
    have e : acF ds (k + 1) l v = if tokF v = true then acL ds (acF ds k) v l 0 else 0 := by simp only [acF]; rw [if_neg h5']
    refine fR rfl ?_
    refine Mid.call (typeOf_ok H v hv) rfl rfl rfl rfl ?_
    refine fM rfl ?_
    refine lM rfl rfl rfl ?_
    refine fM rfl ?_
    refine rList l (fun i (s : Int) => { env := [(3, .ptr 0 0), (5, .ptr 1 0), (7, .t (.int .i64 s)), (10, .t (.str (tnF v))), (11, .t (.bool (tokF v))), (40, .t (.lst (l.map Pick.enc))), (41, .t (.int .i64 l.length)), (42, .t (.int .i64 i))], s := ⟨[(0, .cells [.t (.lst (ds.map Def.enc))]), (1, .cells [.t (.int .i64 v.kind), .t (.int .i64 v.int), .t (.str v.text), .t (.lst (v.items.map Val.enc)), .t (.lst (v.keys.map sE))])], 2⟩ }) (fun r i s => (0 ≤ s ∧ s ≤ 1099511627776) ∧ acF ds (k + 1) l v = if tokF v = true then acL ds (acF ds k) v r s else s) 2 0 rfl ⟨by omega, e⟩ rfl rfl rfl ?_ ?_
    · rintro s ⟨_, hs⟩
      refine fR rfl ?_
      refine Run.condF rfl rfl (by simp) ?_
      refine fR rfl ?_
      refine Run.fin rfl (EndOk.go ?_); exact .t (by rw [hs]; simp [acL])
    · rintro i x r s h1 hi hd ⟨hs1, hs2⟩ ih
      have hxm := List.mem_of_getElem? h1
      have hs1' : 0 ≤ s ∧ s ≤ 1099511627776 := hs1
      refine fR rfl ?_
      refine Run.condT rfl rfl (by simp; omega) ?_
      refine fR rfl ?_
      refine Mid.elemMapC (Pick.enc_eq x) rfl rfl rfl h1 rfl rfl ?_
      refine fM rfl ?_
      refine Run.cond rfl rfl (fun hc => ?_) (fun hc => ?_)
      · refine fR rfl ?_
        refine aL rfl rfl rfl rfl rfl ?_
        refine fM rfl ?_
        exact rWeak 2 rfl (ih s ⟨hs1', by
          rw [hs2]; simp only [acL]
          cases ht : tokF v with
          | false => rfl
          | true =>
            have : ¬ (x.on == tnF v) = true := by simpa [ht] using hc
            simp [this]⟩) rfl rfl rfl
      · have ht : tokF v = true := by simpa using (show tokF v = true ∧ _ by simpa using hc).1
        have hon : (x.on == tnF v) = true := by have := (show tokF v = true ∧ _ by simpa using hc).2; simpa using this
        have hw := wtF_rng ds x.on x.name
        have hA : ActC P 81 ds x.picks ((getV v x.key).getD Val.zero) (((getV v x.key).map (acF ds k x.picks)).getD 0) := by
          cases hg : getV v x.key with
          | none => exact hz ht x hxm
          | some y => exact hrec y (getV_mem hg) x.picks (.inr ⟨x, hxm, rfl⟩)
        have ho2 := opt_rng (o := getV v x.key) (fun y => acF_rng ds k x.picks y)
        unfold ActC at hA
        refine fR rfl ?_
        refine Mid.call (get_ok H.toPr v hv x.key) rfl rfl rfl rfl ?_
        refine fM rfl ?_
        refine Mid.call (wt_ok H ds ho x.on x.name) rfl rfl rfl rfl ?_
        refine fM rfl ?_
        refine Mid.call hA rfl rfl rfl rfl ?_
        refine Mid.bslP rfl rfl rfl ?_
        refine Mid.call (sum3_ok H s (wtF ds x.on x.name) (((getV v x.key).map (acF ds k x.picks)).getD 0) hs1' hw ho2) rfl rfl rfl rfl ?_
        refine fM rfl ?_
        refine aL rfl rfl rfl rfl rfl ?_
        refine fM rfl ?_
        exact rWeak 2 rfl (ih (min (s + wtF ds x.on x.name + ((getV v x.key).map (acF ds k x.picks)).getD 0) 1099511627776) ⟨by omega, by rw [hs2]; simp only [acL, if_pos hon, if_pos ht]⟩) rfl rfl rfl

theorem tokF_zero : tokF Val.zero = false := rfl
theorem acF_zero (ds : List Def) (k : Nat) (l : List Pick) : acF ds (k + 1) l Val.zero = 0 := rfl
theorem actZ (H : Pr40 P) (ds : List Def) (ho : DocOk ds) (l : List Pick) (hll : l.length * 160 ≤ 140737488355328) : ActC P 81 ds l Val.zero 0 :=
  act_step H ds ho 0 l hll Val.zero Val.zero_ok (fun x hx => by simp [Val.zero, Val.items] at hx) (fun h => by rw [tokF_zero] at h; cases h)
theorem actAll (H : Pr40 P) (ds : List Def) (ho : DocOk ds) : ∀ (k : Nat) (l : List Pick) (v : Val), SizeOf.sizeOf v ≤ k → v.Ok → l.length * 160 ≤ 140737488355328 → (∀ p, p ∈ l → p.Ok) → ActC P 81 ds l v (acF ds k l v)
  | 0, l, v, h, _, _, _ => by cases v; simp at h
  | k + 1, l, v, h, hv, hl, hO => act_step H ds ho k l hl v hv (fun x hx l' hl' => actAll H ds ho k l' x (by have := Val.size_items v hx; omega) (hv.it x hx) (by
      rcases hl' with rfl | ⟨p, hp, rfl⟩
      · exact hl
      · exact (hO p hp).pl) (by
      rcases hl' with rfl | ⟨p, hp, rfl⟩
      · exact hO
      · exact (hO p hp).p)) (fun _ p hp => actZ H ds ho p.picks (hO p hp).pl)

theorem rAct_step (H : Pr40 P) (ds : List Def) (ho : DocOk ds) (k : Nat) (l : List Pick) (hll : l.length * 160 ≤ 140737488355328) (v : Val) (hv : v.Ok)
    (hrec : ∀ x, x ∈ v.items → ∀ l', (l' = l ∨ ∃ p, p ∈ l ∧ l' = p.picks) → ActC P 83 ds l' x (acF ds k l' x)) : ActC P 83 ds l v (acF ds (k + 1) l v) := by
  have hil := hv.il
  unfold ActC
  refine FnOk.run H.i83 H.mixed rfl rfl ?_
  refine fR rfl ?_
  refine Run.cond rfl rfl (fun h5 => ?_) (fun h5 => ?_)
  · have e : acF ds (k + 1) l v = sumI 0 (v.items.map (acF ds k l)) := by simp only [acF]; rw [if_pos h5]
    refine fR rfl ?_
    refine rList v.items (fun i (s : Int) => { env := [(1, .t (.lst (l.map Pick.enc))), (3, .ptr 0 0), (5, .ptr 1 0), (7, .t (.int .i64 s)), (8, .t (.int .i64 i))], s := ⟨[(0, .cells [.t (.lst (ds.map Def.enc))]), (1, .cells [.t (.int .i64 v.kind), .t (.int .i64 v.int), .t (.str v.text), .t (.lst (v.items.map Val.enc)), .t (.lst (v.keys.map sE))])], 2⟩ }) (fun r i s => (0 ≤ s ∧ s ≤ 1099511627776) ∧ acF ds (k + 1) l v = sumI s (r.map (acF ds k l))) 2 0 rfl ⟨by omega, e⟩ rfl rfl rfl ?_ ?_
    · rintro s ⟨_, hs⟩
      refine fR rfl ?_
      refine lM rfl rfl rfl ?_
      refine fM rfl ?_
      refine Run.condF rfl rfl (by simp) ?_
      refine fR rfl ?_
      refine Run.fin rfl (EndOk.go ?_); exact .t (by rw [hs]; rfl)
    · rintro i x r s h1 hi hd ⟨hs1, hs2⟩ ih
      have hx := hrec x (List.mem_of_getElem? h1) l (.inl rfl)
      unfold ActC at hx
      have hs1' : 0 ≤ s ∧ s ≤ 1099511627776 := hs1
      have hr := acF_rng ds k l x
      refine fR rfl ?_
      refine lM rfl rfl rfl ?_
      refine fM rfl ?_
      refine Run.condT rfl rfl (by simp; omega) ?_
      refine fR rfl ?_
      refine Mid.elemMapC (Val.enc_eq x) rfl rfl rfl h1 rfl rfl ?_
      refine fM rfl ?_
      refine Mid.call (hx) rfl rfl rfl rfl ?_
      skip
      refine Mid.call (add40_ok H s (acF ds k l x) hs1' hr) rfl rfl rfl rfl ?_
      refine fM rfl ?_
      refine aL rfl rfl rfl rfl rfl ?_
      refine fM rfl ?_
      exact rWeak 2 rfl (ih (min (s + acF ds k l x) 1099511627776) ⟨by omega, by rw [hs2]; rfl⟩) rfl rfl rfl
  · have h5' : ¬ (v.kind == 5) = true := by rw [h5]; simp
    have e : acF ds (k + 1) l v = if tokF v = true then acL ds (acF ds k) v l 0 else 0 := by simp only [acF]; rw [if_neg h5']
    refine fR rfl ?_
    refine Mid.call (typed_ok H v hv) rfl rfl rfl rfl ?_
    refine fM rfl ?_
    refine Run.cond rfl rfl (fun ht => ?_) (fun ht => ?_)
    · have ht' : ¬ tokF v = true := by simpa using ht
      rw [if_neg ht'] at e
      refine fR rfl ?_
      refine Run.fin rfl (EndOk.go ?_); exact .t (by rw [e])
    · have ht' : tokF v = true := by simpa using ht
      rw [if_pos ht'] at e
      refine fR rfl ?_
      refine rList l (fun i (s : Int) => { env := [(1, .t (.lst (l.map Pick.enc))), (3, .ptr 0 0), (5, .ptr 1 0), (7, .t (.int .i64 s)), (9, .t (.str (tnF v))), (11, .t (.int .i64 i))], s := ⟨[(0, .cells [.t (.lst (ds.map Def.enc))]), (1, .cells [.t (.int .i64 v.kind), .t (.int .i64 v.int), .t (.str v.text), .t (.lst (v.items.map Val.enc)), .t (.lst (v.keys.map sE))])], 2⟩ }) (fun r i s => (0 ≤ s ∧ s ≤ 1099511627776) ∧ acF ds (k + 1) l v = acL ds (acF ds k) v r s) 2 0 rfl ⟨by omega, e⟩ rfl rfl rfl ?_ ?_
      · rintro s ⟨_, hs⟩
        refine fR rfl ?_
        refine lM rfl rfl rfl ?_
        refine fM rfl ?_
        refine Run.condF rfl rfl (by simp) ?_
        refine fR rfl ?_
        refine Run.fin rfl (EndOk.go ?_); exact .t (by rw [hs]; simp [acL])
      · rintro i x r s h1 hi hd ⟨hs1, hs2⟩ ih
        have hxm := List.mem_of_getElem? h1
        have hs1' : 0 ≤ s ∧ s ≤ 1099511627776 := hs1
        refine fR rfl ?_
        refine lM rfl rfl rfl ?_
        refine fM rfl ?_
        refine Run.condT rfl rfl (by simp; omega) ?_
        refine fR rfl ?_
        refine Mid.elemMapC (Pick.enc_eq x) rfl rfl rfl h1 rfl rfl ?_
        refine fM rfl ?_
        refine Run.cond rfl rfl (fun hc => ?_) (fun hc => ?_)
        · have hon : ¬ (x.on == tnF v) = true := by simpa using hc
          refine fR rfl ?_
          refine aL rfl rfl rfl rfl rfl ?_
          refine fM rfl ?_
          exact rWeak 2 rfl (ih s ⟨hs1', by rw [hs2]; simp only [acL, if_neg hon]⟩) rfl rfl rfl
        · have hon : (x.on == tnF v) = true := by simpa using hc
          have hon' : x.on = tnF v := by simpa using hc
          have hw := wtF_rng ds (tnF v) x.name
          have hsw : 0 ≤ min (s + wtF ds (tnF v) x.name) 1099511627776 ∧ min (s + wtF ds (tnF v) x.name) 1099511627776 ≤ 1099511627776 := by omega
          refine fR rfl ?_
          refine Mid.elemMapC (Pick.enc_eq x) rfl rfl rfl h1 rfl rfl ?_
          refine fM rfl ?_
          refine Mid.call (rWt_ok H ds ho (tnF v) x.name) rfl rfl rfl rfl ?_
          skip
          refine Mid.call (add40_ok H s (wtF ds (tnF v) x.name) hs1' hw) rfl rfl rfl rfl ?_
          refine fM rfl ?_
          refine Mid.elemMapC (Pick.enc_eq x) rfl rfl rfl h1 rfl rfl ?_
          refine fM rfl ?_
          refine Mid.call (rGet_ok H.toPr v hv x.key) rfl rfl rfl rfl ?_
          refine fM rfl ?_
          cases hg : getV v x.key with
          | none =>
            refine Run.condF rfl rfl rfl ?_
            refine fR rfl ?_
            refine aL rfl rfl rfl rfl rfl ?_
            refine fM rfl ?_
            exact rWeak 2 rfl (ih (min (s + wtF ds (tnF v) x.name) 1099511627776) ⟨by omega, by rw [hs2]; simp only [acL, if_pos hon, hg]; rw [hon']; simp⟩) rfl rfl rfl
          | some y =>
            have hA := hrec y (getV_mem hg) x.picks (.inr ⟨x, hxm, rfl⟩)
            have ho2 := acF_rng ds k x.picks y
            unfold ActC at hA
            refine Run.condT rfl rfl rfl ?_
            refine fR rfl ?_
            refine Mid.elemMapC (Pick.enc_eq x) rfl rfl rfl h1 rfl rfl ?_
            refine fM rfl ?_
            refine Mid.call (hA) rfl rfl rfl rfl ?_
            skip
            refine Mid.call (add40_ok H (min (s + wtF ds (tnF v) x.name) 1099511627776) (acF ds k x.picks y) hsw ho2) rfl rfl rfl rfl ?_
            refine fM rfl ?_
            refine aL rfl rfl rfl rfl rfl ?_
            refine fM rfl ?_
            exact rWeak 2 rfl (ih (min (min (s + wtF ds (tnF v) x.name) 1099511627776 + acF ds k x.picks y) 1099511627776) ⟨by omega, by rw [hs2]; simp only [acL, if_pos hon, hg]; rw [hon', Option.map_some, Option.getD_some, show min (min (s + wtF ds (tnF v) x.name) 1099511627776 + acF ds k x.picks y) 1099511627776 = min (s + wtF ds (tnF v) x.name + acF ds k x.picks y) 1099511627776 from by omega]⟩) rfl rfl rfl
theorem rActAll (H : Pr40 P) (ds : List Def) (ho : DocOk ds) : ∀ (k : Nat) (l : List Pick) (v : Val), SizeOf.sizeOf v ≤ k → v.Ok → l.length * 160 ≤ 140737488355328 → (∀ p, p ∈ l → p.Ok) → ActC P 83 ds l v (acF ds k l v)
  | 0, l, v, h, _, _, _ => by cases v; simp at h
  | k + 1, l, v, h, hv, hl, hO => rAct_step H ds ho k l hl v hv (fun x hx l' hl' => rActAll H ds ho k l' x (by have := Val.size_items v hx; omega) (hv.it x hx) (by
      rcases hl' with rfl | ⟨p, hp, rfl⟩
      · exact hl
      · exact (hO p hp).pl) (by
      rcases hl' with rfl | ⟨p, hp, rfl⟩
      · exact hO
      · exact (hO p hp).p))

/-- Actual -/
def actF (ds : List Def) (k : Nat) (root : Str) (l : List Pick) (v : Val) : Int := if tokF v = true ∧ tnF v = root then acF ds k l v else 0
theorem actual_ok (H : Pr40 P) (ds : List Def) (ho : DocOk ds) (root : Str) (l : List Pick) (hl : l.length * 160 ≤ 140737488355328) (hO : ∀ p, p ∈ l → p.Ok) (v : Val) (hv : v.Ok) (k : Nat) (hk : SizeOf.sizeOf v ≤ k) : FnOk P 40 [docV ds, .t (.str root), .t (.lst (l.map Pick.enc)), v.v] ⟨[], 0⟩ { v := .t (.int .i64 (actF ds k root l v)) } := by
  have h := actAll H ds ho k l v hk hv hl hO
  unfold ActC at h
  refine FnOk.run H.i40 H.mixed rfl rfl ?_
  refine fR rfl ?_
  refine Mid.call (typeOf_ok H v hv) rfl rfl rfl rfl ?_
  refine fM rfl ?_
  refine Run.cond rfl rfl (fun hc => ?_) (fun hc => ?_)
  · refine fR rfl ?_
    refine Run.fin rfl (EndOk.go ?_); exact .t (by simp only [actF]; rw [if_neg (by intro e; simp [e.1, e.2] at hc)])
  · refine fR rfl ?_
    refine Mid.call (h) rfl rfl rfl rfl ?_
    refine fM rfl ?_
    refine Run.fin rfl (EndOk.go ?_); exact .t (by simp only [actF]; rw [if_pos (by simpa using hc)])
theorem rActual_ok (H : Pr40 P) (ds : List Def) (ho : DocOk ds) (root : Str) (l : List Pick) (hl : l.length * 160 ≤ 140737488355328) (hO : ∀ p, p ∈ l → p.Ok) (v : Val) (hv : v.Ok) (k : Nat) (hk : SizeOf.sizeOf v ≤ k) : FnOk P 41 [docV ds, .t (.str root), .t (.lst (l.map Pick.enc)), v.v] ⟨[], 0⟩ { v := .t (.int .i64 (actF ds k root l v)) } := by
  have h := rActAll H ds ho k l v hk hv hl hO
  unfold ActC at h
  refine FnOk.run H.i41 H.mixed rfl rfl ?_
  refine fR rfl ?_
  refine Mid.call (typed_ok H v hv) rfl rfl rfl rfl ?_
  refine fM rfl ?_
  refine Run.cond rfl rfl (fun hc => ?_) (fun hc => ?_)
  · refine fR rfl ?_
    refine Run.fin rfl (EndOk.go ?_); exact .t (by simp only [actF]; rw [if_neg (by intro e; simp [e.1, e.2] at hc)])
  · refine fR rfl ?_
    refine Mid.call (h) rfl rfl rfl rfl ?_
    refine fM rfl ?_
    refine Run.fin rfl (EndOk.go ?_); exact .t (by simp only [actF]; rw [if_pos (by simpa using hc)])
end Go.GB.C43

/-
  A40H: contracts of chapter 40's functions: Within and within.
-/
namespace Go.GB.C43
open Go.GB
set_option linter.unusedSimpArgs false
set_option linter.unusedVariables false
set_option maxRecDepth 100000
set_option maxHeartbeats 2000000
variable {P : Program}

/-- one pick of Within -/
def wiO (w : Pick → Int → Val → Bool) (v : Val) (p : Pick) : Bool :=
  !(tokF v && p.on == tnF v) || !((getV v p.key).isSome) || w p (levF p.ty.wraps) ((getV v p.key).getD Val.zero)
def WiF (w : Pick → Int → Val → Bool) (l : List Pick) (v : Val) : Bool := l.all (wiO w v) && v.kind != 5
def wiF (ds : List Def) : Nat → Pick → Int → Val → Bool
  | 0, _, _, _ => true
  | k + 1, p, n, v =>
    if (v.kind == 5) = true then decide (n > 0) && decide ((v.items.length : Int) ≤ lenF ds p) && v.items.all (fun x => wiF ds k p (n - 1) x)
    else if (v.kind == 6) = true then n == 0 && WiF (wiF ds k) p.picks v
    else true

def WinC (P : Program) (f : Nat) (ds : List Def) (l : List Pick) (v : Val) (b : Bool) : Prop := FnOk P f [docV ds, .t (.lst (l.map Pick.enc)), v.v] ⟨[], 0⟩ { v := .t (.bool b) }
def winC (P : Program) (f : Nat) (ds : List Def) (p : Pick) (n : Int) (v : Val) (b : Bool) : Prop := FnOk P f [docV ds, p.v, .t (.int .i64 n), v.v] ⟨[], 0⟩ { v := .t (.bool b) }

theorem Win_step (H : Pr40 P) (ds : List Def) (ho : DocOk ds) (w : Pick → Int → Val → Bool) (l : List Pick) (hll : l.length * 160 ≤ 140737488355328) (hO : ∀ p, p ∈ l → p.Ok) (v : Val) (hv : v.Ok)
    (hrec : ∀ p, p ∈ l → ∀ x, getV v p.key = some x → winC P 85 ds p (levF p.ty.wraps) x (w p (levF p.ty.wraps) x)) : WinC P 42 ds l v (WiF w l v) := by
  unfold WinC
  refine FnOk.run H.i42 H.mixed rfl rfl ?_
  refine fR rfl ?_
  refine Mid.call (typeOf_ok H v hv) rfl rfl rfl rfl ?_
  refine fM rfl ?_
  refine lM rfl rfl rfl ?_
  refine fM rfl ?_
  refine rList l (fun i (_ : Unit) => { env := [(3, .ptr 0 0), (5, .ptr 1 0), (7, .t (.str (tnF v))), (8, .t (.bool (tokF v))), (18, .t (.lst (l.map Pick.enc))), (19, .t (.int .i64 l.length)), (20, .t (.int .i64 i))], s := ⟨[(0, .cells [.t (.lst (ds.map Def.enc))]), (1, .cells [.t (.int .i64 v.kind), .t (.int .i64 v.int), .t (.str v.text), .t (.lst (v.items.map Val.enc)), .t (.lst (v.keys.map sE))])], 2⟩ }) (fun r i _ => WiF w l v = WiF w r v) 2 () rfl rfl rfl rfl rfl ?_ ?_
  · rintro _ hs
    refine fR rfl ?_
    refine Run.condF rfl rfl (by simp) ?_
    refine fR rfl ?_
    refine Run.fin rfl (EndOk.go ?_); exact .t (by rw [hs]; simp [WiF])
  · rintro i x r _ h1 hi hd hs ih
    have hxm := List.mem_of_getElem? h1
    have hs' : WiF w l v = (wiO w v x && WiF w r v) := by rw [hs]; simp [WiF, Bool.and_assoc]
    have hlw := (hO x hxm).t.l
    have hlv := levF_le x.ty.wraps
    refine fR rfl ?_
    refine Run.condT rfl rfl (by simp; omega) ?_
    refine fR rfl ?_
    refine Mid.elemMapC (Pick.enc_eq x) rfl rfl rfl h1 rfl rfl ?_
    refine fM rfl ?_
    refine Run.cond rfl rfl (fun hc => ?_) (fun hc => ?_)
    · have e : wiO w v x = true := by
        have : (!(tokF v && x.on == tnF v)) = true := by simpa using hc
        simp only [wiO]; rw [this]; rfl
      refine fR rfl ?_
      refine aL rfl rfl rfl rfl rfl ?_
      refine fM rfl ?_
      exact rWeak 2 rfl (ih () (by rw [hs', e]; rfl)) rfl rfl rfl
    · have hc' : (!(tokF v && x.on == tnF v)) = false := by simpa using hc
      refine fR rfl ?_
      refine Mid.call (get_ok H.toPr v hv x.key) rfl rfl rfl rfl ?_
      refine fM rfl ?_
      have e : wiO w v x = (!((getV v x.key).isSome) || w x (levF x.ty.wraps) ((getV v x.key).getD Val.zero)) := by simp only [wiO]; rw [hc']; rfl
      rw [e] at hs'
      cases hg : getV v x.key with
      | none =>
        rw [hg] at hs'
        refine Mid.grdF rfl rfl rfl rfl rfl ?_
        refine fM rfl ?_
        refine Mid.grdF rfl rfl rfl rfl rfl ?_
        refine Mid.grdF rfl rfl rfl rfl rfl ?_
        refine fM rfl ?_
        refine Run.condF rfl rfl rfl ?_
        refine fR rfl ?_
        refine aL rfl rfl rfl rfl rfl ?_
        refine fM rfl ?_
        exact rWeak 2 rfl (ih () (by rw [hs']; rfl)) rfl rfl rfl
      | some y =>
        have hy := hrec x hxm y hg
        unfold winC at hy
        rw [hg] at hs'
        skip
        refine Mid.ungd rfl rfl rfl ?_
        refine Mid.call (levels_ok H x.ty (hO x hxm).t) rfl rfl rfl rfl ?_
        refine fM rfl ?_

        refine Mid.ungd rfl rfl rfl ?_
        refine Mid.call (hy) rfl rfl rfl rfl ?_
        refine fM rfl ?_

        refine Run.cond rfl rfl (fun hw => ?_) (fun hw => ?_)
        · refine fR rfl ?_
          refine Run.fin rfl (EndOk.go ?_); exact .t (by rw [hs', show w x (levF x.ty.wraps) ((some y).getD Val.zero) = false from by simpa using hw]; rfl)
        · refine fR rfl ?_
          refine aL rfl rfl rfl rfl rfl ?_
          refine fM rfl ?_
          exact rWeak 2 rfl (ih () (by rw [hs', show w x (levF x.ty.wraps) ((some y).getD Val.zero) = true from by simpa using hw]; rfl)) rfl rfl rfl
end Go.GB.C43
