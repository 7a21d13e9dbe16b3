/-
  YtjbpmfglccfkaaaGreatDoorP8: lemmas of this proof (part 8). No conditions.
-/
import Derived.Test.YtjbpmfglccfkaaaGreatDoorP7
import Derived.Test.YtjbpmfglccfkaaaGreatDoorP5
import Derived.Handed

/-
  ZG25A: the reference's keys and joins: sets of fields, keys, fields that are found elsewhere.
-/
namespace Go.GB.C23
open Go.GB Go.GB.C11
set_option linter.unusedSimpArgs false
set_option linter.unusedVariables false
set_option maxRecDepth 100000
set_option maxHeartbeats 4000000
structure PrZ (P : Program) : Prop extends Pr25 P where
  i3 : fnInfo P 3 = some (n3, c3.bare, r3)
  i8 : fnInfo P 8 = some (n8, c8.bare, r8)
  i9 : fnInfo P 9 = some (n9, c9.bare, r9)
  i10 : fnInfo P 10 = some (n10, c10.bare, r10)
  i11 : fnInfo P 11 = some (n11, c11.bare, r11)
  i23 : fnInfo P 23 = some (n23, c23.bare, r23)
  i24 : fnInfo P 24 = some (n24, c24.bare, r24)
  i26 : fnInfo P 26 = some (n26, c26.bare, r26)
  i49 : fnInfo P 49 = some (n49, c49.bare, r49)
  i50 : fnInfo P 50 = some (n50, c50.bare, r50)
  i52 : fnInfo P 52 = some (n52, c52.bare, r52)
  i76 : fnInfo P 76 = some (n76, c76.bare, r76)
  i78 : fnInfo P 78 = some (n78, c78.bare, r78)
  i79 : fnInfo P 79 = some (n79, c79.bare, r79)
  i80 : fnInfo P 80 = some (n80, c80.bare, r80)
  i81 : fnInfo P 81 = some (n81, c81.bare, r81)
  i82 : fnInfo P 82 = some (n82, c82.bare, r82)
  i83 : fnInfo P 83 = some (n83, c83.bare, r83)
  i97 : fnInfo P 97 = some (n97, c97.bare, r97)
  i98 : fnInfo P 98 = some (n98, c98.bare, r98)
  i99 : fnInfo P 99 = some (n99, c99.bare, r99)
variable {P : Program}

theorem rset25_ok (H : PrZ P) (v : Val) (hv : v.text.length ≤ 1048576) : FnOk P 52 [v.v] ⟨[], 0⟩ { v := .t (.lst ((setF v.text).1.map sE)) } := by
  have h2 := rSet_ok H.toPr23 v.text (by omega)
  have h3 := fun h => setF_bad (s := v.text) h
  generalize setF v.text = R at h2 h3 ⊢
  refine FnOk.run H.i52 H.mixed rfl rfl ?_
  refine fR rfl ?_
  refine Mid.call (h2) rfl rfl rfl rfl ?_
  refine fM rfl ?_
  refine Run.cond rfl rfl (fun h => ?_) (fun h => ?_)
  · have h' : ¬ R.2 = 0 := by simpa using h
    refine fR rfl ?_
    rw [h3 h']
    refine Run.fin rfl (EndOk.go ?_); exact .nil rfl
  · refine fR rfl ?_
    refine Run.fin rfl (EndOk.go ?_); exact .t rfl
theorem allD_tx {n a : Str} {v : Val} : ∀ {l : List Dir}, (∀ d, d ∈ l → DOk d) → v ∈ allD n a l → v.text.length ≤ 1048576
  | [], _, h => by cases h
  | x :: r, ho, h => by
    rw [allD_cons] at h
    rcases List.mem_append.1 h with h | h
    · cases hf : argF a x.args with
      | none => rw [hf] at h; cases h
      | some w =>
        rw [hf] at h
        dsimp only at h
        split at h
        · simp at h; rw [h]
          exact argF_tx (fun y hy => ((ho x (List.mem_cons_self ..)).an y hy).2.2) hf
        · cases h
    · exact allD_tx (fun y hy => ho y (List.mem_cons_of_mem _ hy)) h
theorem allD_len (n a : Str) : ∀ l : List Dir, (allD n a l).length ≤ l.length
  | [] => by simp [allD]
  | x :: r => by
    have := allD_len n a r
    rw [allD_cons, List.length_append, List.length_cons]
    cases argF a x.args with
    | none => simp; omega
    | some w => dsimp only; split <;> simp <;> omega
def setsM (n : Str) (l : List Dir) : List (List Str) := (allD n ([102, 105, 101, 108, 100, 115] : Str) l).map fun v => (setF v.text).1
theorem sets25_ok (H : PrZ P) (l : List Dir) (hd : DK l) (n : Str) : FnOk P 24 [.t (.lst (l.map Dir.enc)), .t (.str n)] ⟨[], 0⟩ { v := .t (.lst ((setsM n l).map lE)) } := by
  have h0 := rAll_ok H.toPr23 l hd.aok n ([102, 105, 101, 108, 100, 115] : Str)
  have htx := fun v (h : v ∈ allD n ([102, 105, 101, 108, 100, 115] : Str) l) => allD_tx hd.d h
  have hle := allD_len n ([102, 105, 101, 108, 100, 115] : Str) l
  have hl := hd.l
  unfold setsM
  generalize allD n ([102, 105, 101, 108, 100, 115] : Str) l = A at h0 htx hle
  have hR : ∀ R, A.map (fun v => (setF v.text).1) = R → FnOk P 24 [.t (.lst (l.map Dir.enc)), .t (.str n)] ⟨[], 0⟩ { v := .t (.lst (R.map lE)) } := by
    intro R hR
    refine FnOk.run H.i24 H.mixed rfl rfl ?_
    refine fR rfl ?_
    refine Mid.call (h0) rfl rfl rfl rfl ?_
    refine fM rfl ?_
    refine rList A (fun i (B : List (List Str)) => { env := [(5, .own 0 1 (B.map lE)), (6, .t (.lst (A.map Val.enc))), (7, .t (.int .i64 i))], s := ⟨[(0, .arr B.length)], 1⟩ }) (fun r i B => B.length ≤ i ∧ B ++ r.map (fun v => (setF v.text).1) = R) 0 [] rfl ⟨by simp, hR⟩ rfl rfl rfl ?_ ?_
    · rintro B ⟨_, hB⟩
      obtain rfl : B = R := by rw [← hB]; simp
      refine fR rfl ?_
      refine lM rfl rfl rfl ?_
      refine fM rfl ?_
      refine Run.condF rfl rfl (by simp) ?_
      refine fR rfl ?_
      refine Run.fin rfl (EndOk.go ?_); exact .own rfl
    · rintro i v r B h1 hi hdr ⟨hBl, hB⟩ ih
      have hBl' : B.length ≤ i := hBl
      have hx := htx v (List.mem_of_getElem? h1)
      refine fR rfl ?_
      refine lM rfl rfl rfl ?_
      refine fM rfl ?_
      refine Run.condT rfl rfl (by simp; omega) ?_
      refine fR rfl ?_
      refine Mid.elemMapC (Val.enc_eq v) rfl rfl rfl h1 rfl rfl ?_
      refine fM rfl ?_
      refine Mid.call (rset25_ok H v hx) rfl rfl rfl rfl ?_
      refine fM rfl ?_
      refine apM lE B [(setF v.text).1] rfl rfl rfl rfl rfl ?_ (h1 := by first | omega | (simp; omega) | (simp; done)) (h2 := by first | omega | (simp; omega) | (simp; done))
      refine fM rfl ?_
      refine aL rfl rfl rfl rfl rfl ?_
      refine fM rfl ?_
      exact rWeak 1 rfl (ih (B ++ [(setF v.text).1]) ⟨by simp; omega, by rw [← hB]; simp⟩) rfl rfl rfl
  exact hR _ rfl
theorem setF_nil : (setF []).1 = [] := by rfl
theorem one_ok (H : PrZ P) (l : List Dir) (hd : DK l) (n : Str) : FnOk P 26 [.t (.lst (l.map Dir.enc)), .t (.str n)] ⟨[], 0⟩ { v := .t (.lst ((setM l n).map sE)) } := by
  have h1 := rArg_ok H.toPr23 l hd.aok n ([102, 105, 101, 108, 100, 115] : Str)
  unfold setM
  cases hq : argD n ([102, 105, 101, 108, 100, 115] : Str) l with
  | none =>
    rw [hq] at h1
    refine FnOk.run H.i26 H.mixed rfl rfl ?_
    refine fR rfl ?_
    refine Mid.call (h1) rfl rfl rfl rfl ?_
    refine fM rfl ?_
    refine Run.condT rfl rfl (by simp) ?_
    refine fR rfl ?_
    refine Run.fin rfl (EndOk.go ?_); exact .nil (congrArg (List.map sE) setF_nil).symm
  | some v =>
    rw [hq] at h1
    have h2 := rset25_ok H v (argD_tx hd.d hq)
    refine FnOk.run H.i26 H.mixed rfl rfl ?_
    refine fR rfl ?_
    refine Mid.call (h1) rfl rfl rfl rfl ?_
    refine fM rfl ?_
    refine Run.condF rfl rfl (by simp) ?_
    refine fR rfl ?_
    refine Mid.call (h2) rfl rfl rfl rfl ?_
    refine fM rfl ?_
    refine Run.fin rfl (EndOk.go ?_); exact .t rfl
theorem in25_ok (H : PrZ P) (l : List Str) (hl : l.length ≤ 140737488355328) (s : Str) : FnOk P 97 [.t (.lst (l.map sE)), .t (.str s)] ⟨[], 0⟩ { v := .t (.bool (decide (s ∈ l))) } := by
  refine FnOk.run H.i97 H.mixed rfl rfl ?_
  refine fR rfl ?_
  refine rList l (fun i (_ : Unit) => { env := [(0, .t (.lst (l.map sE))), (1, .t (.str s)), (5, .t (.int .i64 i))], s := ⟨[], 0⟩ }) (fun r i _ => decide (s ∈ l) = decide (s ∈ r)) 0 () rfl rfl rfl rfl rfl ?_ ?_
  · intro _ hinv
    refine fR rfl ?_
    refine lM rfl rfl rfl ?_
    refine fM rfl ?_
    refine Run.condF rfl rfl (by simp) ?_
    refine fR rfl ?_
    refine Run.fin rfl (EndOk.go ?_); exact .t (by rw [hinv]; simp)
  · intro i x r _ h1 hi hd hinv ih
    refine fR rfl ?_
    refine lM rfl rfl rfl ?_
    refine fM rfl ?_
    refine Run.condT rfl rfl (by simp; omega) ?_
    refine fR rfl ?_
    refine Mid.elemMap rfl rfl rfl h1 rfl rfl ?_
    refine fM rfl ?_
    refine Run.cond rfl rfl (fun hc => ?_) (fun hc => ?_)
    · have hc' : x = s := by simpa using hc
      refine fR rfl ?_
      refine Run.fin rfl (EndOk.go ?_); exact .t (by rw [hinv]; simp [hc'])
    · have hc' : ¬ x = s := by simpa using hc
      have hc2 : ¬ s = x := fun e => hc' e.symm
      refine fR rfl ?_
      refine aL rfl rfl rfl rfl rfl ?_
      refine fM rfl ?_
      exact rWeak 0 rfl (ih () (by rw [hinv]; simp [hc2])) rfl rfl rfl
def objM (ds : List Def) (n : Str) : Option Def := match findDef n ds with | some t => if t.kind = 1 then some t else none | none => none
theorem object25_ok (H : PrZ P) (ds : List Def) (hl : ds.length ≤ 140737488355328) (n : Str) : FnOk P 99 [docV ds, .t (.str n)] ⟨[], 0⟩ { v := .tup [((objM ds n).getD Def.zero).v, .t (.bool (objM ds n).isSome)] } := by
  have h1 := rFind_ok H.toPr ds hl n
  unfold objM
  cases hq : findDef n ds with
  | none =>
    rw [hq] at h1
    refine FnOk.run H.i99 H.mixed rfl rfl ?_
    refine fR rfl ?_
    refine Mid.call (h1) rfl rfl rfl rfl ?_
    refine fM rfl ?_
    refine Run.condT rfl rfl (by simp) ?_
    refine fR rfl ?_
    refine Run.fin rfl (EndOk.go ?_); exact .tup2 (.agg (.cons (.t rfl) (.cons (.t rfl) (.cons (.nil rfl) (.cons (.nil rfl) (.cons (.nil rfl) (.cons (.nil rfl) (.cons (.nil rfl) .nil)))))))) (.t rfl)
  | some t =>
    rw [hq] at h1
    by_cases hk : t.kind = 1
    · dsimp only
      rw [if_pos hk]
      refine FnOk.run H.i99 H.mixed rfl rfl ?_
      refine fR rfl ?_
      refine Mid.call (h1) rfl rfl rfl rfl ?_
      refine fM rfl ?_
      refine Run.condF rfl rfl (by simp [hk]) ?_
      refine fR rfl ?_
      refine Run.fin rfl (EndOk.go ?_); exact .tup2 (.le (.same rfl)) (.t rfl)
    · dsimp only
      rw [if_neg hk]
      refine FnOk.run H.i99 H.mixed rfl rfl ?_
      refine fR rfl ?_
      refine Mid.call (h1) rfl rfl rfl rfl ?_
      refine fM rfl ?_
      refine Run.condT rfl rfl (by simp [hk]) ?_
      refine fR rfl ?_
      refine Run.fin rfl (EndOk.go ?_); exact .tup2 (.agg (.cons (.t rfl) (.cons (.t rfl) (.cons (.nil rfl) (.cons (.nil rfl) (.cons (.nil rfl) (.cons (.nil rfl) (.cons (.nil rfl) .nil)))))))) (.t rfl)
theorem objM_some {ds : List Def} {n : Str} {t : Def} (h : objM ds n = some t) : findDef n ds = some t ∧ t.kind = 1 := by
  unfold objM at h
  split at h
  · split at h
    · rename_i h1 h2; cases h; exact ⟨h1, h2⟩
    · cases h
  · cases h
theorem objM_none {ds : List Def} {n : Str} (h : objM ds n = none) : ((findDef n ds).getD Def.zero).kind ≠ 1 := by
  unfold objM at h
  split at h
  · split at h
    · cases h
    · rename_i h1 h2; rw [h1]; exact h2
  · rename_i h1; rw [h1]; decide
theorem objM_tk {ds : List Def} (gk : GK ds) (n : Str) : TK ((objM ds n).getD Def.zero) := by
  cases h : objM ds n with
  | none => exact TK.zero
  | some t => exact gk.t t (findDef_mem (objM_some h).1)

/-- the sets of its keys are read alike -/
def KR (l : List Dir) : Prop := setsM ([107, 101, 121] : Str) l = keysD l
theorem KR.nil : KR [] := rfl
theorem inKey_ok (H : PrZ P) (t : Def) (hd : DK t.dirs) (hk : KR t.dirs) (f : Str) : FnOk P 83 [t.v, .t (.str f)] ⟨[], 0⟩ { v := .t (.bool (isKeyM t.dirs f)) } := by
  have h0 := sets25_ok H t.dirs hd ([107, 101, 121] : Str)
  rw [hk] at h0
  have hl := hd.l
  have hkl := keysD_len t.dirs
  have hkm := fun k (h : k ∈ keysD t.dirs) => keysD_mem h
  unfold isKeyM
  generalize keysD t.dirs = K at h0 hkl hkm ⊢
  refine FnOk.run H.i83 H.mixed rfl rfl ?_
  refine fR rfl ?_
  refine Mid.call (h0) rfl rfl rfl rfl ?_
  refine fM rfl ?_
  refine rList K (fun i (_ : Unit) => { env := [(1, .t (.str f)), (5, .t (.lst (K.map lE))), (6, .t (.int .i64 i))], s := ⟨[], 0⟩ }) (fun r i _ => (K.any fun k => decide (f ∈ k)) = r.any fun k => decide (f ∈ k)) 0 () rfl rfl rfl rfl rfl ?_ ?_
  · intro _ hinv
    refine fR rfl ?_
    refine lM rfl rfl rfl ?_
    refine fM rfl ?_
    refine Run.condF rfl rfl (by simp) ?_
    refine fR rfl ?_
    refine Run.fin rfl (EndOk.go ?_); exact .t (by rw [hinv]; rfl)
  · intro i x r _ h1 hi hdr hinv ih
    have hx := hkm x (List.mem_of_getElem? h1)
    refine fR rfl ?_
    refine lM rfl rfl rfl ?_
    refine fM rfl ?_
    refine Run.condT rfl rfl (by simp; omega) ?_
    refine fR rfl ?_
    refine Mid.elemMap rfl rfl rfl h1 rfl rfl ?_
    refine fM rfl ?_
    refine Mid.call (in25_ok H x (by omega) f) rfl rfl rfl rfl ?_
    refine fM rfl ?_
    refine Run.cond rfl rfl (fun hc => ?_) (fun hc => ?_)
    · refine fR rfl ?_
      refine Run.fin rfl (EndOk.go ?_); exact .t (by rw [hinv, List.any_cons, hc]; rfl)
    · refine fR rfl ?_
      refine aL rfl rfl rfl rfl rfl ?_
      refine fM rfl ?_
      exact rWeak 0 rfl (ih () (by rw [hinv, List.any_cons, hc]; rfl)) rfl rfl rfl
theorem root25_ok (H : PrZ P) (n : Str) : FnOk P 76 [.t (.str n)] ⟨[], 0⟩ { v := .t (.bool (rootB n)) } := by
  refine FnOk.run H.i76 H.mixed rfl rfl ?_
  refine fR rfl ?_
  refine Run.fin rfl (EndOk.go ?_); exact .t rfl
theorem rLeaf_ok (H : PrZ P) (ds : List Def) (gk : GK ds) (n : Str) : FnOk P 77 [docV ds, .t (.str n)] ⟨[], 0⟩ { v := .t (.bool (leafM ds n)) } := by
  have h1 := rFind_ok H.toPr ds gk.len n
  unfold leafM kindM
  cases hq : findDef n ds with
  | none =>
    rw [hq] at h1
    refine FnOk.run H.i77 H.mixed rfl rfl ?_
    refine fR rfl ?_
    refine Mid.call (h1) rfl rfl rfl rfl ?_
    refine fM rfl ?_
    refine Mid.call (rScalar_ok H.toPr n) rfl rfl rfl rfl ?_
    refine fM rfl ?_
    refine Run.fin rfl (EndOk.go ?_); exact .t rfl
  | some t =>
    rw [hq] at h1
    refine FnOk.run H.i77 H.mixed rfl rfl ?_
    refine fR rfl ?_
    refine Mid.call (h1) rfl rfl rfl rfl ?_
    refine fM rfl ?_
    refine Mid.call (rScalar_ok H.toPr n) rfl rfl rfl rfl ?_
    refine fM rfl ?_
    refine Run.fin rfl (EndOk.go ?_); exact .t rfl
theorem resolvable_ok (H : PrZ P) (g : Graph) (gk : GK g.doc) (n f : Str) : FnOk P 98 [g.v, .t (.str n), .t (.str f)] ⟨[], 0⟩ { v := .t (.bool (resM g.doc n f)) } := by
  have h1 := object25_ok H g.doc gk.len n
  cases hq : objM g.doc n with
  | none =>
    rw [hq] at h1
    have hk := objM_none hq
    have e : resM g.doc n f = false := by unfold resM; simp [hk]
    rw [e]
    refine FnOk.run H.i98 H.mixed rfl rfl ?_
    refine fR rfl ?_
    refine Mid.call (h1) rfl rfl rfl rfl ?_
    refine fM rfl ?_
    refine Run.condT rfl rfl (by simp) ?_
    refine fR rfl ?_
    refine Run.fin rfl (EndOk.go ?_); exact .t rfl
  | some t =>
    rw [hq] at h1
    obtain ⟨hf, hk⟩ := objM_some hq
    have hT := gk.t t (findDef_mem hf)
    have hF := hT.field f
    have hfl := hT.fl
    have e : resM g.doc n f = ((findField f t.fields).isSome && !hasD ([101, 120, 116, 101, 114, 110, 97, 108] : Str) ((findField f t.fields).getD Field.zero).dirs) := by unfold resM; rw [hf]; simp [hk]
    rw [e]
    refine FnOk.run H.i98 H.mixed rfl rfl ?_
    refine fR rfl ?_
    refine Mid.call (h1) rfl rfl rfl rfl ?_
    refine fM rfl ?_
    refine Run.condF rfl rfl (by simp) ?_
    refine fR rfl ?_
    refine Mid.call (rFieldOf_ok H.toPr t (by omega) f) rfl rfl rfl rfl ?_
    refine fM rfl ?_
    refine caG rfl rfl (fun hg => ⟨_, rfl, hasD_ok H.toPr23 25 ((findField f t.fields).getD Field.zero).dirs hF.d.len ([101, 120, 116, 101, 114, 110, 97, 108] : Str) (.inr rfl), rfl⟩) rfl rfl ?_
    refine fM rfl ?_
    refine Run.fin rfl (EndOk.go ?_); exact .t rfl
theorem elsewhere_ok (H : PrZ P) (gs : List Graph) (hl : gs.length ≤ 140737488355328) (gk : ∀ g, g ∈ gs → GK g.doc) (a : Nat) (n f : Str) : FnOk P 79 [.t (.lst (gs.map Graph.enc)), .t (.int .i64 a), .t (.str n), .t (.str f)] ⟨[], 0⟩ { v := .t (.bool (othM a n f 0 gs)) } := by
  refine FnOk.run H.i79 H.mixed rfl rfl ?_
  refine fR rfl ?_
  refine rList gs (fun i (_ : Unit) => { env := [(0, .t (.lst (gs.map Graph.enc))), (1, .t (.int .i64 a)), (2, .t (.str n)), (3, .t (.str f)), (9, .t (.int .i64 i))], s := ⟨[], 0⟩ }) (fun r i _ => othM a n f 0 gs = othM a n f i r) 0 () rfl rfl rfl rfl rfl ?_ ?_
  · intro _ hinv
    refine fR rfl ?_
    refine lM rfl rfl rfl ?_
    refine fM rfl ?_
    refine Run.condF rfl rfl (by simp) ?_
    refine fR rfl ?_
    refine Run.fin rfl (EndOk.go ?_); exact .t (by rw [hinv]; rfl)
  · intro i g r _ h1 hi hd hinv ih
    have hgg := gk g (List.mem_of_getElem? h1)
    refine fR rfl ?_
    refine lM rfl rfl rfl ?_
    refine fM rfl ?_
    refine Run.condT rfl rfl (by simp; omega) ?_
    refine fR rfl ?_
    refine elG rfl rfl rfl rfl h1 rfl rfl ?_
    refine fM rfl ?_
    refine caG rfl rfl (fun hg => ⟨_, rfl, resolvable_ok H g hgg n f, rfl⟩) rfl rfl ?_
    refine fM rfl ?_
    refine Run.cond rfl rfl (fun hc => ?_) (fun hc => ?_)
    · have hc' : (((i : Int) != (a : Int)) && resM g.doc n f) = true := hc
      refine fR rfl ?_
      refine Run.fin rfl (EndOk.go ?_); exact .t (by rw [hinv, othM, hc']; rfl)
    · have hc' : (((i : Int) != (a : Int)) && resM g.doc n f) = false := hc
      refine fR rfl ?_
      refine aL rfl rfl rfl rfl rfl ?_
      refine fM rfl ?_
      exact rWeak 0 rfl (ih () (by rw [hinv, othM, hc']; rfl)) rfl rfl rfl
theorem rOutside_ok (H : PrZ P) (ds : List Def) (gk : GK ds) (t : Def) (ht : TK t) (l : List Str) (hl : l.length ≤ 140737488355328) : FnOk P 80 [docV ds, t.v, .t (.lst (l.map sE))] ⟨[], 0⟩ { v := .t (.bool (outM ds t l)) } := by
  have hfl := ht.fl
  refine FnOk.run H.i80 H.mixed rfl rfl ?_
  refine fR rfl ?_
  refine rList l (fun i (_ : Unit) => { env := [(2, .t (.lst (l.map sE))), (3, .ptr 0 0), (4, .ptr 1 0), (7, .t (.int .i64 i))], s := ⟨[(0, (.cells [.t (.lst (ds.map Def.enc))])), (1, (.cells [.t (.int .i64 t.kind), .t (.str t.name), .t (.lst (t.implements.map sE)), .t (.lst (t.dirs.map Dir.enc)), .t (.lst (t.fields.map Field.enc)), .t (.lst (t.members.map Member.enc)), .t (.lst (t.inputs.map Input.enc))]))], 2⟩ }) (fun r i _ => l.any (outB ds t) = r.any (outB ds t)) 2 () rfl rfl rfl rfl rfl ?_ ?_
  · intro _ hinv
    refine fR rfl ?_
    refine lM rfl rfl rfl ?_
    refine fM rfl ?_
    refine Run.condF rfl rfl (by simp) ?_
    refine fR rfl ?_
    refine lM rfl rfl rfl ?_
    refine fM rfl ?_
    refine Run.fin rfl (EndOk.go ?_); exact .t (by unfold outM; rw [hinv]; rfl)
  · intro i n r _ h1 hi hd hinv ih
    have hF := ht.field n
    have hal := hF.al
    refine fR rfl ?_
    refine lM rfl rfl rfl ?_
    refine fM rfl ?_
    refine Run.condT rfl rfl (by simp; omega) ?_
    refine fR rfl ?_
    refine Mid.elemMap rfl rfl rfl h1 rfl rfl ?_
    refine fM rfl ?_
    refine Mid.call (rFieldOf_ok H.toPr t (by omega) n) rfl rfl rfl rfl ?_
    refine fM rfl ?_
    refine caG rfl rfl (fun hg => ⟨_, rfl, hasD_ok H.toPr23 25 ((findField n t.fields).getD Field.zero).dirs hF.d.len ([101, 120, 116, 101, 114, 110, 97, 108] : Str) (.inr rfl), rfl⟩) rfl rfl ?_
    refine fM rfl ?_
    refine lMG rfl rfl rfl rfl ?_
    refine fM rfl ?_
    refine caG rfl rfl (fun hg => ⟨_, rfl, rLeaf_ok H ds gk ((findField n t.fields).getD Field.zero).ty.name, rfl⟩) rfl rfl ?_
    refine fM rfl ?_
    refine Run.cond rfl rfl (fun hc => ?_) (fun hc => ?_)
    · have hc' : outB ds t n = true := hc
      refine fR rfl ?_
      refine Run.fin rfl (EndOk.go ?_); exact .t (by unfold outM; rw [hinv, List.any_cons, hc']; rfl)
    · have hc' : outB ds t n = false := hc
      refine fR rfl ?_
      refine aL rfl rfl rfl rfl rfl ?_
      refine fM rfl ?_
      exact rWeak 2 rfl (ih () (by rw [hinv, List.any_cons, hc']; rfl)) rfl rfl rfl
theorem rProvides_ok (H : PrZ P) (g : Graph) (gk : GK g.doc) (x : Field) (hx : FK x) : FnOk P 82 [docV g.doc, x.v] ⟨[], 0⟩ { v := .t (.bool (!c3M g x)) } := by
  have h1 := object25_ok H g.doc gk.len x.ty.name
  have hs := setM_le x.dirs ([112, 114, 111, 118, 105, 100, 101, 115] : Str)
  cases hq : objM g.doc x.ty.name with
  | none =>
    rw [hq] at h1
    have hk := objM_none hq
    have e : c3M g x = true := by unfold c3M; simp [hk]
    rw [e]
    refine FnOk.run H.i82 H.mixed rfl rfl ?_
    refine fR rfl ?_
    refine Mid.call (h1) rfl rfl rfl rfl ?_
    refine fM rfl ?_
    refine caG rfl rfl (fun hg => ⟨_, rfl, one_ok H x.dirs hx.d ([112, 114, 111, 118, 105, 100, 101, 115] : Str), rfl⟩) rfl rfl ?_
    skip
    refine caG rfl rfl (fun hg => ⟨_, rfl, rOutside_ok H g.doc gk Def.zero TK.zero (setM x.dirs ([112, 114, 111, 118, 105, 100, 101, 115] : Str)) (by omega), rfl⟩) rfl rfl ?_
    refine fM rfl ?_
    refine Run.fin rfl (EndOk.go ?_); exact .t rfl
  | some t =>
    rw [hq] at h1
    obtain ⟨hf, hk⟩ := objM_some hq
    have hT := gk.t t (findDef_mem hf)
    have e : (!c3M g x) = outM g.doc t (setM x.dirs ([112, 114, 111, 118, 105, 100, 101, 115] : Str)) := by unfold c3M; rw [hf]; simp [hk]
    rw [e]
    refine FnOk.run H.i82 H.mixed rfl rfl ?_
    refine fR rfl ?_
    refine Mid.call (h1) rfl rfl rfl rfl ?_
    refine fM rfl ?_
    refine caG rfl rfl (fun hg => ⟨_, rfl, one_ok H x.dirs hx.d ([112, 114, 111, 118, 105, 100, 101, 115] : Str), rfl⟩) rfl rfl ?_
    skip
    refine caG rfl rfl (fun hg => ⟨_, rfl, rOutside_ok H g.doc gk t hT (setM x.dirs ([112, 114, 111, 118, 105, 100, 101, 115] : Str)) (by omega), rfl⟩) rfl rfl ?_
    refine fM rfl ?_
    refine Run.fin rfl (EndOk.go ?_); exact .t rfl
end Go.GB.C23


/-
  GbZC: knowing less ahead of code of any form.
-/
namespace Go.GB
set_option linter.unusedVariables false
section
variable {P : Program} {n m : Nat} {R : St → Prop}
/- f steps of control, then the code c; j names are kept -/
theorem rWeakN {k k' : List It} {c : ACode} {st st' : St} (f j : Nat) (hk : advK f k = .c c :: k') (h : Run P n m R (.c c :: k') st') (h1 : Nat.ble m j = true) (h2 : Nat.ble j st.s.nxt = true) (h3 : Nat.ble j st'.s.nxt = true) (he : LeE j st'.s.nxt st.env st'.env := by repeat' (first | exact trivial | exact LeX.t | exact LeX.top | exact LeX.nilOwn (Nat.le_of_ble_eq_true rfl) (Nat.le_of_ble_eq_true rfl) | exact LeX.ownT | exact LeX.nilT | exact LeX.same rfl | exact LeX.tEq (by simp) | exact LeX.ownEq (by simp) (Nat.le_of_ble_eq_true rfl) | exact LeX.tEq (by congr 1 <;> omega) | exact Or.inr ⟨Nat.le_of_ble_eq_true rfl, Nat.le_of_ble_eq_true rfl, rfl⟩ | refine Or.inl ⟨Nat.le_of_ble_eq_true rfl, _, rfl, ?_⟩ | refine LeO.cells ?_ | exact LeO.arr rfl | exact LeO.arr (by simp) | exact LeO.mE (by first | rfl | simp) (by first | exact Or.inl rfl | exact Or.inr rfl) | exact LeO.cE (by first | rfl | simp) | exact LeXs.cE (by first | rfl | simp) | refine LeO.map (by first | rfl | simp) ?_ (by first | exact Or.inl rfl | exact Or.inr rfl) | exact LeO.iter (by first | rfl | simp) (Nat.le_of_ble_eq_true rfl) | refine LeXs.cons ?_ ?_ | exact LeXs.nil | refine And.intro ?_ ?_)) (hs : LeS j st'.s.nxt st.s.sto st'.s.sto := by repeat' (first | exact trivial | exact LeX.t | exact LeX.top | exact LeX.nilOwn (Nat.le_of_ble_eq_true rfl) (Nat.le_of_ble_eq_true rfl) | exact LeX.ownT | exact LeX.nilT | exact LeX.same rfl | exact LeX.tEq (by simp) | exact LeX.ownEq (by simp) (Nat.le_of_ble_eq_true rfl) | exact LeX.tEq (by congr 1 <;> omega) | exact Or.inr ⟨Nat.le_of_ble_eq_true rfl, Nat.le_of_ble_eq_true rfl, rfl⟩ | refine Or.inl ⟨Nat.le_of_ble_eq_true rfl, _, rfl, ?_⟩ | refine LeO.cells ?_ | exact LeO.arr rfl | exact LeO.arr (by simp) | exact LeO.mE (by first | rfl | simp) (by first | exact Or.inl rfl | exact Or.inr rfl) | exact LeO.cE (by first | rfl | simp) | exact LeXs.cE (by first | rfl | simp) | refine LeO.map (by first | rfl | simp) ?_ (by first | exact Or.inl rfl | exact Or.inr rfl) | exact LeO.iter (by first | rfl | simp) (Nat.le_of_ble_eq_true rfl) | refine LeXs.cons ?_ ?_ | exact LeXs.nil | refine And.intro ?_ ?_)) : Run P n m R k st :=
  Run.adv f hk (by unfold Run at h ⊢; exact Sat.weak j h (Nat.le_of_ble_eq_true h1) (Nat.le_of_ble_eq_true h2) (Nat.le_of_ble_eq_true h3) he hs)
end
end Go.GB


/-
  ZG25B: the reference's violations of keys and fields.
-/
namespace Go.GB.C23
open Go.GB Go.GB.C11
set_option linter.unusedSimpArgs false
set_option linter.unusedVariables false
set_option maxRecDepth 100000
set_option maxHeartbeats 4000000
variable {P : Program}

theorem rMentioned_ok (H : PrZ P) (g : Graph) (gk : GK g.doc) (t : Def) (ht : TK t) (hk : KR t.dirs) (f : Str) : FnOk P 78 [docV g.doc, t.v, .t (.str f)] ⟨[], 0⟩ { v := .t (.bool (menM g.doc t f)) } := by
  have hfl := ht.fl
  have hgl := gk.l
  refine FnOk.run H.i78 H.mixed rfl rfl ?_
  refine fR rfl ?_
  refine Mid.call (inKey_ok H t ht.d hk f) rfl rfl rfl rfl ?_
  refine fM rfl ?_
  refine Run.cond rfl rfl (fun h => ?_) (fun h => ?_)
  · have h' : isKeyM t.dirs f = true := h
    refine fR rfl ?_
    refine Run.fin rfl (EndOk.go ?_); exact .t (by unfold menM; rw [h']; rfl)
  · have h' : isKeyM t.dirs f = false := h
    have e0 : menM g.doc t f = (reqM f t.fields || g.doc.any fun x => x.fields.any (prvM f t.name x.kind)) := by unfold menM; rw [h']; rfl
    rw [e0]
    refine fR rfl ?_
    refine rList t.fields (fun i (_ : Unit) => { env := [(2, .t (.str f)), (3, .ptr 0 0), (4, .ptr 1 0), (7, .t (.int .i64 i))], s := ⟨[(0, (.cells [.t (.lst (g.doc.map Def.enc))])), (1, (.cells [.t (.int .i64 t.kind), .t (.str t.name), .t (.lst (t.implements.map sE)), .t (.lst (t.dirs.map Dir.enc)), .t (.lst (t.fields.map Field.enc)), .t (.lst (t.members.map Member.enc)), .t (.lst (t.inputs.map Input.enc))]))], 2⟩ }) (fun r i _ => reqM f t.fields = reqM f r) 2 () rfl rfl rfl rfl rfl ?_ ?_
    · intro _ hinv
      have hinv' : reqM f t.fields = false := hinv
      rw [hinv', Bool.false_or]
      refine fR rfl ?_
      refine lM rfl rfl rfl ?_
      refine fM rfl ?_
      refine Run.condF rfl rfl (by simp) ?_
      refine fR rfl ?_
      refine rList g.doc (fun i (_ : Unit) => { env := [(2, .t (.str f)), (3, .ptr 0 0), (4, .ptr 1 0), (8, .t (.int .i64 i))], s := ⟨[(0, (.cells [.t (.lst (g.doc.map Def.enc))])), (1, (.cells [.t (.int .i64 t.kind), .t (.str t.name), .t (.lst (t.implements.map sE)), .t (.lst (t.dirs.map Dir.enc)), .t (.lst (t.fields.map Field.enc)), .t (.lst (t.members.map Member.enc)), .t (.lst (t.inputs.map Input.enc))]))], 2⟩ }) (fun r i _ => (g.doc.any fun x => x.fields.any (prvM f t.name x.kind)) = r.any fun x => x.fields.any (prvM f t.name x.kind)) 2 () rfl rfl rfl rfl rfl ?_ ?_
      · intro _ hinv2
        refine fR rfl ?_
        refine lM rfl rfl rfl ?_
        refine fM rfl ?_
        refine Run.condF rfl rfl (by simp) ?_
        refine fR rfl ?_
        refine Run.fin rfl (EndOk.go ?_); exact .t (by rw [hinv2]; rfl)
      · intro i x r _ h1 hi hd hinv2 ih
        have hx := gk.t x (List.mem_of_getElem? h1)
        have hxl := hx.fl
        refine fR rfl ?_
        refine lM rfl rfl rfl ?_
        refine fM rfl ?_
        refine Run.condT rfl rfl (by simp; omega) ?_
        refine fR rfl ?_
        refine rList x.fields (fun j (_ : Unit) => { env := [(2, .t (.str f)), (3, .ptr 0 0), (4, .ptr 1 0), (8, .t (.int .i64 i)), (9, .t (.int .i64 j))], s := ⟨[(0, (.cells [.t (.lst (g.doc.map Def.enc))])), (1, (.cells [.t (.int .i64 t.kind), .t (.str t.name), .t (.lst (t.implements.map sE)), .t (.lst (t.dirs.map Dir.enc)), .t (.lst (t.fields.map Field.enc)), .t (.lst (t.members.map Member.enc)), .t (.lst (t.inputs.map Input.enc))]))], 2⟩ }) (fun r2 j _ => (g.doc.any fun x => x.fields.any (prvM f t.name x.kind)) = (r2.any (prvM f t.name x.kind) || r.any fun x => x.fields.any (prvM f t.name x.kind))) 2 () rfl (by rw [hinv2, List.any_cons]) rfl rfl rfl ?_ ?_
        · intro _ hinv3
          refine fR rfl ?_
          refine Mid.elemMap rfl rfl rfl h1 rfl rfl ?_
          refine fM rfl ?_
          refine lM rfl rfl rfl ?_
          refine fM rfl ?_
          refine elG rfl rfl rfl rfl h1 rfl rfl ?_
          refine fM rfl ?_
          refine Run.condF rfl rfl (by simp) ?_
          refine fR rfl ?_
          refine aL rfl rfl rfl rfl rfl ?_
          refine fM rfl ?_
          exact rWeak 2 rfl (ih () (by rw [hinv3]; rfl)) rfl rfl rfl
        · intro j y r2 _ h2 hj hjd hinv3 ih3
          have hy := hx.f y (List.mem_of_getElem? h2)
          have hs := setM_le y.dirs ([112, 114, 111, 118, 105, 100, 101, 115] : Str)
          refine fR rfl ?_
          refine Mid.elemMap rfl rfl rfl h1 rfl rfl ?_
          refine fM rfl ?_
          refine lM rfl rfl rfl ?_
          refine fM rfl ?_
          refine elG rfl rfl rfl rfl h1 rfl rfl ?_
          refine fM rfl ?_
          by_cases hk1 : x.kind = 1
          · refine Run.condT rfl rfl (by simp [hk1]; omega) ?_
            refine fR rfl ?_
            refine Mid.elemMap rfl rfl rfl h1 rfl rfl ?_
            refine fM rfl ?_
            refine Mid.elemMap rfl rfl rfl h2 rfl rfl ?_
            refine fM rfl ?_
            refine caG rfl rfl (fun hg => ⟨_, rfl, one_ok H y.dirs hy.d ([112, 114, 111, 118, 105, 100, 101, 115] : Str), rfl⟩) rfl rfl ?_
            refine fM rfl ?_
            refine caG rfl rfl (fun hg => ⟨_, rfl, in25_ok H (setM y.dirs ([112, 114, 111, 118, 105, 100, 101, 115] : Str)) (by omega) f, rfl⟩) rfl rfl ?_
            refine fM rfl ?_
            refine Run.cond rfl rfl (fun hc => ?_) (fun hc => ?_)
            · have hc' : prvM f t.name x.kind y = true := by unfold prvM; rw [hk1]; simpa using hc
              refine fR rfl ?_
              refine Run.fin rfl (EndOk.go ?_); exact .t (by rw [hinv3, List.any_cons, hc']; rfl)
            · have hc' : prvM f t.name x.kind y = false := by unfold prvM; rw [hk1]; simpa using hc
              refine fR rfl ?_
              refine aL rfl rfl rfl rfl rfl ?_
              refine fM rfl ?_
              exact rWeak 2 rfl (ih3 () (by rw [hinv3, List.any_cons, hc']; rfl)) rfl rfl rfl
          · have e1 : ∀ l : List Field, l.any (prvM f t.name x.kind) = false := by
              intro l
              rw [List.any_eq_false]
              intro z _
              unfold prvM
              simp [hk1]
            refine Run.condF rfl rfl (by simp [hk1]) ?_
            refine fR rfl ?_
            refine aL rfl rfl rfl rfl rfl ?_
            refine fM rfl ?_
            exact rWeak 2 rfl (ih () (by rw [hinv3, e1]; rfl)) rfl rfl rfl
    · intro i x r _ h1 hi hd hinv ih
      have hx := ht.f x (List.mem_of_getElem? h1)
      have hs := setM_le x.dirs ([114, 101, 113, 117, 105, 114, 101, 115] : Str)
      refine fR rfl ?_
      refine lM rfl rfl rfl ?_
      refine fM rfl ?_
      refine Run.condT rfl rfl (by simp; omega) ?_
      refine fR rfl ?_
      refine Mid.elemMap rfl rfl rfl h1 rfl rfl ?_
      refine fM rfl ?_
      refine Mid.call (one_ok H x.dirs hx.d ([114, 101, 113, 117, 105, 114, 101, 115] : Str)) rfl rfl rfl rfl ?_
      refine fM rfl ?_
      refine Mid.call (in25_ok H (setM x.dirs ([114, 101, 113, 117, 105, 114, 101, 115] : Str)) (by omega) f) rfl rfl rfl rfl ?_
      refine fM rfl ?_
      refine Run.cond rfl rfl (fun hc => ?_) (fun hc => ?_)
      · have hc' : decide (f ∈ setM x.dirs ([114, 101, 113, 117, 105, 114, 101, 115] : Str)) = true := hc
        refine fR rfl ?_
        refine Run.fin rfl (EndOk.go ?_); exact .t (by rw [hinv, reqM, List.any_cons, hc']; rfl)
      · have hc' : decide (f ∈ setM x.dirs ([114, 101, 113, 117, 105, 114, 101, 115] : Str)) = false := hc
        refine fR rfl ?_
        refine aL rfl rfl rfl rfl rfl ?_
        refine fM rfl ?_
        exact rWeak 2 rfl (ih () (by rw [hinv, reqM, List.any_cons, hc']; rfl)) rfl rfl rfl

/-- the keys of all its types are read alike -/
def KRs (ds : List Def) : Prop := ∀ t, t ∈ ds → KR t.dirs
theorem asked_ok (H : PrZ P) (gs : List Graph) (hl : gs.length ≤ 140737488355328) (gk : ∀ g, g ∈ gs → GK g.doc) (hk : ∀ g, g ∈ gs → KRs g.doc) (n f : Str) : FnOk P 81 [.t (.lst (gs.map Graph.enc)), .t (.str n), .t (.str f)] ⟨[], 0⟩ { v := .t (.bool (gs.any (leaG n f))) } := by
  refine FnOk.run H.i81 H.mixed rfl rfl ?_
  refine fR rfl ?_
  refine rList gs (fun i (_ : Unit) => { env := [(0, .t (.lst (gs.map Graph.enc))), (1, .t (.str n)), (2, .t (.str f)), (7, .t (.int .i64 i))], s := ⟨[], 0⟩ }) (fun r i _ => gs.any (leaG n f) = r.any (leaG n f)) 0 () rfl rfl rfl rfl rfl ?_ ?_
  · intro _ hinv
    refine fR rfl ?_
    refine lM rfl rfl rfl ?_
    refine fM rfl ?_
    refine Run.condF rfl rfl (by simp) ?_
    refine fR rfl ?_
    refine Run.fin rfl (EndOk.go ?_); exact .t (by rw [hinv]; rfl)
  · intro i g r _ h1 hi hd hinv ih
    have hgg := gk g (List.mem_of_getElem? h1)
    have hgr := hk g (List.mem_of_getElem? h1)
    have ho := object25_ok H g.doc hgg.len n
    have hT := objM_tk hgg n
    have hfl := hT.fl
    have hK : KR ((objM g.doc n).getD Def.zero).dirs := by
      cases hq : objM g.doc n with
      | none => exact KR.nil
      | some t => exact hgr t (findDef_mem (objM_some hq).1)
    have hle : leaG n f g = (isKeyM ((objM g.doc n).getD Def.zero).dirs f || reqM f ((objM g.doc n).getD Def.zero).fields) := by
      unfold leaG
      cases hq : objM g.doc n with
      | none =>
        have h2 := objM_none hq
        have e : (((findDef n g.doc).getD Def.zero).kind != 1) = true := by simpa using h2
        rw [e]; rfl
      | some t =>
        obtain ⟨h2, h3⟩ := objM_some hq
        rw [h2]
        have e : ((Option.getD (some t) Def.zero).kind != 1) = false := by simpa using h3
        rw [e]; rfl
    generalize (objM g.doc n).isSome = b at ho
    generalize (objM g.doc n).getD Def.zero = t at ho hT hfl hK hle
    refine fR rfl ?_
    refine lM rfl rfl rfl ?_
    refine fM rfl ?_
    refine Run.condT rfl rfl (by simp; omega) ?_
    refine fR rfl ?_
    refine Mid.elemMap rfl rfl rfl h1 rfl rfl ?_
    refine fM rfl ?_
    refine Mid.call (ho) rfl rfl rfl rfl ?_
    refine fM rfl ?_
    refine Mid.call (inKey_ok H t hT.d hK f) rfl rfl rfl rfl ?_
    refine fM rfl ?_
    refine Run.cond rfl rfl (fun hc => ?_) (fun hc => ?_)
    · have hc' : leaG n f g = true := by rw [hle, hc]; rfl
      refine fR rfl ?_
      refine Run.fin rfl (EndOk.go ?_); exact .t (by rw [hinv, List.any_cons, hc']; rfl)
    · rw [hc, Bool.false_or] at hle
      refine fR rfl ?_
      refine rList t.fields (fun j (_ : Unit) => { env := [(0, .t (.lst (gs.map Graph.enc))), (1, .t (.str n)), (2, .t (.str f)), (7, .t (.int .i64 i)), (8, .ptr 0 0), (10, .t (.int .i64 j))], s := ⟨[(0, (.cells [.t (.int .i64 t.kind), .t (.str t.name), .t (.lst (t.implements.map sE)), .t (.lst (t.dirs.map Dir.enc)), .t (.lst (t.fields.map Field.enc)), .t (.lst (t.members.map Member.enc)), .t (.lst (t.inputs.map Input.enc))]))], 1⟩ }) (fun r2 j _ => reqM f t.fields = reqM f r2) 1 () rfl rfl rfl rfl rfl ?_ ?_
      · intro _ hinv2
        have hinv2' : reqM f t.fields = false := hinv2
        refine fR rfl ?_
        refine lM rfl rfl rfl ?_
        refine fM rfl ?_
        refine Run.condF rfl rfl (by simp) ?_
        refine fR rfl ?_
        refine aL rfl rfl rfl rfl rfl ?_
        refine fM rfl ?_
        exact rWeak 0 rfl (ih () (by rw [hinv, List.any_cons, hle, hinv2']; rfl)) rfl rfl rfl
      · intro j x r2 _ h2 hj hjd hinv2 ih2
        have hx := hT.f x (List.mem_of_getElem? h2)
        have hs := setM_le x.dirs ([114, 101, 113, 117, 105, 114, 101, 115] : Str)
        refine fR rfl ?_
        refine lM rfl rfl rfl ?_
        refine fM rfl ?_
        refine Run.condT rfl rfl (by simp; omega) ?_
        refine fR rfl ?_
        refine Mid.elemMap rfl rfl rfl h2 rfl rfl ?_
        refine fM rfl ?_
        refine Mid.call (one_ok H x.dirs hx.d ([114, 101, 113, 117, 105, 114, 101, 115] : Str)) rfl rfl rfl rfl ?_
        refine fM rfl ?_
        refine Mid.call (in25_ok H (setM x.dirs ([114, 101, 113, 117, 105, 114, 101, 115] : Str)) (by omega) f) rfl rfl rfl rfl ?_
        refine fM rfl ?_
        refine Run.cond rfl rfl (fun hc2 => ?_) (fun hc2 => ?_)
        · have e2 : reqM f t.fields = true := by rw [hinv2, reqM, List.any_cons, hc2]; rfl
          refine fR rfl ?_
          refine Run.fin rfl (EndOk.go ?_); exact .t (by rw [hinv, List.any_cons, hle, e2]; rfl)
        · refine fR rfl ?_
          refine aL rfl rfl rfl rfl rfl ?_
          refine fM rfl ?_
          exact rWeak 1 rfl (ih2 () (by rw [hinv2, reqM, List.any_cons, hc2]; rfl)) rfl rfl rfl

/-- can a set be a key of a type? -/
def keyR (ds : List Def) (t : Def) (k : List Str) : Bool := !((rootB t.name || ((k.length : Int) == 0)) || k.any (keyN ds t false))
theorem keyR_eq (ds : List Def) (t : Def) (i : Nat) (k : List Str) : keyB ds t i k = (decide ((i : Int) ≥ 4) || !keyR ds t k) := by
  unfold keyB keyR
  rw [foldl_keyN]
  simp [Bool.or_assoc]
theorem keyRight_ok (H : PrZ P) (ds : List Def) (gk : GK ds) (t : Def) (ht : TK t) (k : List Str) (hk : k.length ≤ 4) : FnOk P 49 [docV ds, t.v, .t (.lst (k.map sE))] ⟨[], 0⟩ { v := .t (.bool (keyR ds t k)) } := by
  have hfl := ht.fl
  refine FnOk.run H.i49 H.mixed rfl rfl ?_
  refine fR rfl ?_
  refine Mid.call (root25_ok H t.name) rfl rfl rfl rfl ?_
  refine fM rfl ?_
  refine lMG rfl rfl rfl rfl ?_
  refine fM rfl ?_
  refine Run.cond rfl rfl (fun hc => ?_) (fun hc => ?_)
  · refine fR rfl ?_
    refine Run.fin rfl (EndOk.go ?_); exact .t (by unfold keyR; rw [hc]; rfl)
  · have e0 : keyR ds t k = !k.any (keyN ds t false) := by unfold keyR; rw [hc]; rfl
    rw [e0]
    refine fR rfl ?_
    refine rList k (fun i (_ : Unit) => { env := [(2, .t (.lst (k.map sE))), (3, .ptr 0 0), (4, .ptr 1 0), (7, .t (.int .i64 i))], s := ⟨[(0, (.cells [.t (.lst (ds.map Def.enc))])), (1, (.cells [.t (.int .i64 t.kind), .t (.str t.name), .t (.lst (t.implements.map sE)), .t (.lst (t.dirs.map Dir.enc)), .t (.lst (t.fields.map Field.enc)), .t (.lst (t.members.map Member.enc)), .t (.lst (t.inputs.map Input.enc))]))], 2⟩ }) (fun r i _ => k.any (keyN ds t false) = r.any (keyN ds t false)) 2 () rfl rfl rfl rfl rfl ?_ ?_
    · intro _ hinv
      refine fR rfl ?_
      refine lM rfl rfl rfl ?_
      refine fM rfl ?_
      refine Run.condF rfl rfl (by simp) ?_
      refine fR rfl ?_
      refine Run.fin rfl (EndOk.go ?_); exact .t (by rw [hinv]; rfl)
    · intro i n r _ h1 hi hdr hinv ih
      have hF := ht.field n
      have hal := hF.al
      have hwl := hF.w
      have hN : keyN ds t false n = ((!(findField n t.fields).isSome || decide ((((findField n t.fields).getD Field.zero).args.length : Int) > 0)) || !plainM ds ((findField n t.fields).getD Field.zero)) := by unfold keyN; rw [Bool.false_or]
      refine fR rfl ?_
      refine lM rfl rfl rfl ?_
      refine fM rfl ?_
      refine Run.condT rfl rfl (by simp; omega) ?_
      refine fR rfl ?_
      refine Mid.elemMap rfl rfl rfl h1 rfl rfl ?_
      refine fM rfl ?_
      refine Mid.call (rFieldOf_ok H.toPr t (by omega) n) rfl rfl rfl rfl ?_
      refine fM rfl ?_
      refine lMG rfl rfl rfl rfl ?_
      refine fM rfl ?_
      refine lMG rfl rfl rfl rfl ?_
      refine fM rfl ?_
      generalize (findField n t.fields).getD Field.zero = F at hF hal hwl hN ⊢
      generalize (findField n t.fields).isSome = ok at hN ⊢
      by_cases hw : F.ty.wraps.length = 1
      · obtain ⟨w, hw'⟩ := List.length_eq_one_iff.1 hw
        have e3 : plainM ds F = ((w == 1) && leafM ds F.ty.name) := by unfold plainM; rw [hw']
        rw [e3] at hN
        have h0 : F.ty.wraps[0]? = some w := by rw [hw']; rfl
        have e1 : ((F.ty.wraps.length : Int) != 1) = false := by rw [hw]; rfl
        rw [e1]
        skip
        refine elG rfl rfl rfl rfl h0 rfl rfl ?_
        refine fM rfl ?_
        refine caG rfl rfl (fun hg => ⟨_, rfl, rLeaf_ok H ds gk F.ty.name, rfl⟩) rfl rfl ?_
        refine fM rfl ?_
        refine Run.cond rfl rfl (fun hc2 => ?_) (fun hc2 => ?_)
        · have hc' : keyN ds t false n = true := by rw [hN, ← hc2]; cases ok <;> cases decide ((F.args.length : Int) > 0) <;> cases hq : (w == 1) <;> simp_all
          refine fR rfl ?_
          refine Run.fin rfl (EndOk.go ?_); exact .t (by rw [hinv, List.any_cons, hc']; rfl)
        · have hc' : keyN ds t false n = false := by rw [hN, ← hc2]; cases ok <;> cases decide ((F.args.length : Int) > 0) <;> cases hq : (w == 1) <;> simp_all
          refine fR rfl ?_
          refine aL rfl rfl rfl rfl rfl ?_
          refine fM rfl ?_
          exact rWeak 2 rfl (ih () (by rw [hinv, List.any_cons, hc']; rfl)) rfl rfl rfl
      · have e1 : ((F.ty.wraps.length : Int) != 1) = true := by simp; omega
        have e2 : plainM ds F = false := by
          unfold plainM
          cases hc : F.ty.wraps with
          | nil => rfl
          | cons a l => cases l with
            | nil => rw [hc] at hw; exact absurd rfl hw
            | cons => rfl
        rw [e2] at hN
        have hc' : keyN ds t false n = true := by rw [hN]; simp
        rw [e1]
        generalize decide ((F.args.length : Int) > 0) = b2 at hN ⊢
        cases hcw : F.ty.wraps with
        | nil =>
          cases ok
          · cases b2
            · refine Mid.grdF rfl rfl rfl rfl rfl ?_
              refine Mid.grdF rfl rfl rfl rfl rfl ?_
              refine Mid.grdF rfl rfl rfl rfl rfl ?_
              refine fM rfl ?_
              refine Mid.grdF rfl rfl rfl rfl rfl ?_
              refine Mid.grdF rfl rfl rfl rfl rfl ?_
              refine fM rfl ?_
              refine Run.condT rfl rfl rfl ?_
              refine fR rfl ?_
              refine Run.fin rfl (EndOk.go ?_); exact .t (by rw [hinv, List.any_cons, hc']; rfl)
            · refine Mid.grdF rfl rfl rfl rfl rfl ?_
              refine Mid.grdF rfl rfl rfl rfl rfl ?_
              refine Mid.grdF rfl rfl rfl rfl rfl ?_
              refine fM rfl ?_
              refine Mid.grdF rfl rfl rfl rfl rfl ?_
              refine Mid.grdF rfl rfl rfl rfl rfl ?_
              refine fM rfl ?_
              refine Run.condT rfl rfl rfl ?_
              refine fR rfl ?_
              refine Run.fin rfl (EndOk.go ?_); exact .t (by rw [hinv, List.any_cons, hc']; rfl)
          · cases b2
            · refine Mid.grdF rfl rfl rfl rfl rfl ?_
              refine Mid.grdF rfl rfl rfl rfl rfl ?_
              refine Mid.grdF rfl rfl rfl rfl rfl ?_
              refine fM rfl ?_
              refine Mid.grdF rfl rfl rfl rfl rfl ?_
              refine Mid.grdF rfl rfl rfl rfl rfl ?_
              refine fM rfl ?_
              refine Run.condT rfl rfl rfl ?_
              refine fR rfl ?_
              refine Run.fin rfl (EndOk.go ?_); exact .t (by rw [hinv, List.any_cons, hc']; rfl)
            · refine Mid.grdF rfl rfl rfl rfl rfl ?_
              refine Mid.grdF rfl rfl rfl rfl rfl ?_
              refine Mid.grdF rfl rfl rfl rfl rfl ?_
              refine fM rfl ?_
              refine Mid.grdF rfl rfl rfl rfl rfl ?_
              refine Mid.grdF rfl rfl rfl rfl rfl ?_
              refine fM rfl ?_
              refine Run.condT rfl rfl rfl ?_
              refine fR rfl ?_
              refine Run.fin rfl (EndOk.go ?_); exact .t (by rw [hinv, List.any_cons, hc']; rfl)
        | cons a l =>
          cases ok
          · cases b2
            · refine gr rfl ?_
              refine fM rfl ?_
              refine Mid.grdF rfl rfl rfl rfl rfl ?_
              refine Mid.grdF rfl rfl rfl rfl rfl ?_
              refine fM rfl ?_
              refine Run.condT rfl rfl rfl ?_
              refine fR rfl ?_
              refine Run.fin rfl (EndOk.go ?_); exact .t (by rw [hinv, List.any_cons, hc']; rfl)
            · refine gr rfl ?_
              refine fM rfl ?_
              refine Mid.grdF rfl rfl rfl rfl rfl ?_
              refine Mid.grdF rfl rfl rfl rfl rfl ?_
              refine fM rfl ?_
              refine Run.condT rfl rfl rfl ?_
              refine fR rfl ?_
              refine Run.fin rfl (EndOk.go ?_); exact .t (by rw [hinv, List.any_cons, hc']; rfl)
          · cases b2
            · refine gr rfl ?_
              refine fM rfl ?_
              refine Mid.grdF rfl rfl rfl rfl rfl ?_
              refine Mid.grdF rfl rfl rfl rfl rfl ?_
              refine fM rfl ?_
              refine Run.condT rfl rfl rfl ?_
              refine fR rfl ?_
              refine Run.fin rfl (EndOk.go ?_); exact .t (by rw [hinv, List.any_cons, hc']; rfl)
            · refine gr rfl ?_
              refine fM rfl ?_
              refine Mid.grdF rfl rfl rfl rfl rfl ?_
              refine Mid.grdF rfl rfl rfl rfl rfl ?_
              refine fM rfl ?_
              refine Run.condT rfl rfl rfl ?_
              refine fR rfl ?_
              refine Run.fin rfl (EndOk.go ?_); exact .t (by rw [hinv, List.any_cons, hc']; rfl)

/-- the codes of the violations of a field -/
def ifN (c : Bool) (n : Int) : List Int := if c then [n] else []
theorem ifN_len (c : Bool) (n : Int) : (ifN c n).length ≤ 1 := by cases c <;> simp [ifN]
def codesM (gs : List Graph) (a : Nat) (g : Graph) (t : Def) (x : Field) : List Int :=
  ifN (c1M gs a g t x) 42 ++ (ifN (c2M gs g t x) 43 ++ (ifN (hasD ([112, 114, 111, 118, 105, 100, 101, 115] : Str) x.dirs && c3M g x) 44 ++ ifN (c4M gs a t x) 40))
theorem ifM_map (c : Bool) (n : Int) (s : Str) : ifM c ⟨n, s⟩ = (ifN c n).map fun e => (⟨e, s⟩ : Fault) := by cases c <;> rfl
theorem fieldF_codes (gs : List Graph) (a : Nat) (g : Graph) (t : Def) (x : Field) : fieldF gs a g t x = (codesM gs a g t x).map fun e => (⟨e, placeM g t x⟩ : Fault) := by
  unfold fieldF codesM
  simp only [List.map_append, ifM_map]
  congr 1
  congr 1
  congr 1
  cases hasD ([112, 114, 111, 118, 105, 100, 101, 115] : Str) x.dirs <;> simp [ifN]
theorem codesM_len (gs : List Graph) (a : Nat) (g : Graph) (t : Def) (x : Field) : (codesM gs a g t x).length ≤ 4 := by
  have h1 := ifN_len (c1M gs a g t x) 42
  have h2 := ifN_len (c2M gs g t x) 43
  have h3 := ifN_len (hasD ([112, 114, 111, 118, 105, 100, 101, 115] : Str) x.dirs && c3M g x) 44
  have h4 := ifN_len (c4M gs a t x) 40
  unfold codesM
  simp only [List.length_append]; omega
theorem fieldFaults_ok (H : PrZ P) (gs : List Graph) (hl : gs.length ≤ 140737488355328) (gk : ∀ g, g ∈ gs → GK g.doc) (hk : ∀ g, g ∈ gs → KRs g.doc) (a : Nat) (g : Graph) (ha : gs[a]? = some g) (t : Def) (ht : TK t) (htk : KR t.dirs) (x : Field) (hx : FK x) :
    FnOk P 50 [.t (.lst (gs.map Graph.enc)), .t (.int .i64 a), t.v, x.v] ⟨[], 0⟩ { v := .t (.lst ((codesM gs a g t x).map nE)) } := by
  have hgg := gk g (List.mem_of_getElem? ha)
  have hdl := ht.d.l
  have hkl := keysD_len t.dirs
  have hs1 := setM_le x.dirs ([114, 101, 113, 117, 105, 114, 101, 115] : Str)
  have hsk := sets25_ok H t.dirs ht.d ([107, 101, 121] : Str)
  rw [htk] at hsk
  have e1 : c1M gs a g t x = (hasD ([101, 120, 116, 101, 114, 110, 97, 108] : Str) x.dirs && (!menM g.doc t x.name || !othM a t.name x.name 0 gs)) := rfl
  have e2 : c2M gs g t x = (hasD ([114, 101, 113, 117, 105, 114, 101, 115] : Str) x.dirs && (((hasD ([101, 120, 116, 101, 114, 110, 97, 108] : Str) x.dirs || !outM g.doc t (setM x.dirs ([114, 101, 113, 117, 105, 114, 101, 115] : Str))) || (((keysD t.dirs).length : Int) == 0)) || gs.any (leaG t.name x.name))) := by
    unfold c2M
    cases hasD ([114, 101, 113, 117, 105, 114, 101, 115] : Str) x.dirs <;> cases hasD ([101, 120, 116, 101, 114, 110, 97, 108] : Str) x.dirs <;> cases gs.any (leaG t.name x.name) <;> cases (((keysD t.dirs).length : Int) == 0) <;> cases outM g.doc t (setM x.dirs ([114, 101, 113, 117, 105, 114, 101, 115] : Str)) <;> rfl
  have e4 : c4M gs a t x = ((!hasD ([101, 120, 116, 101, 114, 110, 97, 108] : Str) x.dirs && othM a t.name x.name 0 gs) && (hasD ([114, 101, 113, 117, 105, 114, 101, 115] : Str) x.dirs || (!hasD ([115, 104, 97, 114, 101, 97, 98, 108, 101] : Str) x.dirs && !isKeyM t.dirs x.name))) := by
    unfold c4M
    cases hasD ([114, 101, 113, 117, 105, 114, 101, 115] : Str) x.dirs <;> cases hasD ([101, 120, 116, 101, 114, 110, 97, 108] : Str) x.dirs <;> cases hasD ([115, 104, 97, 114, 101, 97, 98, 108, 101] : Str) x.dirs <;> cases isKeyM t.dirs x.name <;> cases othM a t.name x.name 0 gs <;> rfl
  have hR : ∀ R, codesM gs a g t x = R → FnOk P 50 [.t (.lst (gs.map Graph.enc)), .t (.int .i64 a), t.v, x.v] ⟨[], 0⟩ { v := .t (.lst (R.map nE)) } := by
    intro R hR
    unfold codesM at hR
    have g4 : ∀ A : List Int, A.length ≤ 3 → A ++ ifN (c4M gs a t x) 40 = R → Run P n50 0 (EndOk ⟨[], 0⟩ { v := .t (.lst (R.map nE)) } r50 .ret) [It.c c50_3] { env := [(0, .t (.lst (gs.map Graph.enc))), (1, .t (.int .i64 a)), (6, .ptr 0 0), (7, .ptr 1 0), (10, .own 3 1 (A.map nE)), (11, .t (.bool (hasD ([101, 120, 116, 101, 114, 110, 97, 108] : Str) x.dirs))), (12, .t (.bool (hasD ([114, 101, 113, 117, 105, 114, 101, 115] : Str) x.dirs)))], s := ⟨[(0, (.cells [.t (.int .i64 t.kind), .t (.str t.name), .t (.lst (t.implements.map sE)), .t (.lst (t.dirs.map Dir.enc)), .t (.lst (t.fields.map Field.enc)), .t (.lst (t.members.map Member.enc)), .t (.lst (t.inputs.map Input.enc))])), (1, (.cells [.t (.str x.name), .t (.lst (x.args.map Input.enc)), .t (.str x.ty.name), .t (.lst (x.ty.wraps.map nE)), .t (.lst (x.dirs.map Dir.enc))])), (2, (.cells [.t (.lst (g.doc.map Def.enc))])), (3, .arr A.length)], 4⟩ } := by
      intro A hA hR
      rw [e4] at hR
      refine fR rfl ?_
      refine caG rfl rfl (fun hg => ⟨_, rfl, elsewhere_ok H gs hl gk a t.name x.name, rfl⟩) rfl rfl ?_
      refine fM rfl ?_
      refine caG rfl rfl (fun hg => ⟨_, rfl, hasD_ok H.toPr23 25 x.dirs hx.d.len ([115, 104, 97, 114, 101, 97, 98, 108, 101] : Str) (.inr rfl), rfl⟩) rfl rfl ?_
      refine fM rfl ?_
      refine caG rfl rfl (fun hg => ⟨_, rfl, inKey_ok H t ht.d htk x.name, rfl⟩) rfl rfl ?_
      refine fM rfl ?_
      refine Run.cond rfl rfl (fun hc => ?_) (fun hc => ?_)
      · rw [show ((!hasD ([101, 120, 116, 101, 114, 110, 97, 108] : Str) x.dirs && othM a t.name x.name 0 gs) && (hasD ([114, 101, 113, 117, 105, 114, 101, 115] : Str) x.dirs || (!hasD ([115, 104, 97, 114, 101, 97, 98, 108, 101] : Str) x.dirs && !isKeyM t.dirs x.name))) = true from hc] at hR
        refine fR rfl ?_
        refine apM nE A [(40 : Int)] rfl rfl rfl rfl rfl ?_ (h1 := by first | omega | (simp; omega) | (simp; done)) (h2 := by first | omega | (simp; omega) | (simp; done))
        refine fM rfl ?_
        refine Run.fin rfl (EndOk.go ?_); exact .own (by rw [← hR]; rfl)
      · rw [show ((!hasD ([101, 120, 116, 101, 114, 110, 97, 108] : Str) x.dirs && othM a t.name x.name 0 gs) && (hasD ([114, 101, 113, 117, 105, 114, 101, 115] : Str) x.dirs || (!hasD ([115, 104, 97, 114, 101, 97, 98, 108, 101] : Str) x.dirs && !isKeyM t.dirs x.name))) = false from hc] at hR
        refine fR rfl ?_
        refine Run.fin rfl (EndOk.go ?_); exact .own (by rw [← hR]; simp [ifN])
    have g3 : ∀ A : List Int, A.length ≤ 2 → A ++ (ifN (hasD ([112, 114, 111, 118, 105, 100, 101, 115] : Str) x.dirs && c3M g x) 44 ++ ifN (c4M gs a t x) 40) = R → Run P n50 0 (EndOk ⟨[], 0⟩ { v := .t (.lst (R.map nE)) } r50 .ret) [It.c c50_6] { env := [(0, .t (.lst (gs.map Graph.enc))), (1, .t (.int .i64 a)), (6, .ptr 0 0), (7, .ptr 1 0), (9, .ptr 2 0), (10, .own 3 1 (A.map nE)), (11, .t (.bool (hasD ([101, 120, 116, 101, 114, 110, 97, 108] : Str) x.dirs))), (12, .t (.bool (hasD ([114, 101, 113, 117, 105, 114, 101, 115] : Str) x.dirs)))], s := ⟨[(0, (.cells [.t (.int .i64 t.kind), .t (.str t.name), .t (.lst (t.implements.map sE)), .t (.lst (t.dirs.map Dir.enc)), .t (.lst (t.fields.map Field.enc)), .t (.lst (t.members.map Member.enc)), .t (.lst (t.inputs.map Input.enc))])), (1, (.cells [.t (.str x.name), .t (.lst (x.args.map Input.enc)), .t (.str x.ty.name), .t (.lst (x.ty.wraps.map nE)), .t (.lst (x.dirs.map Dir.enc))])), (2, (.cells [.t (.lst (g.doc.map Def.enc))])), (3, .arr A.length)], 4⟩ } := by
      intro A hA hR
      refine fR rfl ?_
      refine Mid.call (hasD_ok H.toPr23 25 x.dirs hx.d.len ([112, 114, 111, 118, 105, 100, 101, 115] : Str) (.inr rfl)) rfl rfl rfl rfl ?_
      refine fM rfl ?_
      refine caG rfl rfl (fun hg => ⟨_, rfl, rProvides_ok H g hgg x hx, rfl⟩) rfl rfl ?_
      refine fM rfl ?_
      refine Run.cond rfl rfl (fun hc => ?_) (fun hc => ?_)
      · rw [show (hasD ([112, 114, 111, 118, 105, 100, 101, 115] : Str) x.dirs && c3M g x) = true by simpa using hc] at hR
        refine fR rfl ?_
        refine apM nE A [(44 : Int)] rfl rfl rfl rfl rfl ?_ (h1 := by simp; omega) (h2 := by simp; omega)
        refine Mid.fast (f := 2) rfl trivial ?_
        refine rWeakN 0 4 rfl (g4 (A ++ [44]) (by simp; omega) (by rw [← hR]; simp [ifN])) (by exact rfl) (by exact rfl) (by exact rfl)
      · rw [show (hasD ([112, 114, 111, 118, 105, 100, 101, 115] : Str) x.dirs && c3M g x) = false by simpa using hc] at hR
        refine rWeakN 1 4 rfl (g4 A (by omega) (by rw [← hR]; simp [ifN])) (by exact rfl) (by exact rfl) (by exact rfl)
    have g2 : ∀ A : List Int, A.length ≤ 1 → A ++ (ifN (c2M gs g t x) 43 ++ (ifN (hasD ([112, 114, 111, 118, 105, 100, 101, 115] : Str) x.dirs && c3M g x) 44 ++ ifN (c4M gs a t x) 40)) = R → Run P n50 0 (EndOk ⟨[], 0⟩ { v := .t (.lst (R.map nE)) } r50 .ret) [It.c c50_9] { env := [(0, .t (.lst (gs.map Graph.enc))), (1, .t (.int .i64 a)), (6, .ptr 0 0), (7, .ptr 1 0), (9, .ptr 2 0), (10, .own 3 1 (A.map nE)), (11, .t (.bool (hasD ([101, 120, 116, 101, 114, 110, 97, 108] : Str) x.dirs))), (12, .t (.bool (hasD ([114, 101, 113, 117, 105, 114, 101, 115] : Str) x.dirs)))], s := ⟨[(0, (.cells [.t (.int .i64 t.kind), .t (.str t.name), .t (.lst (t.implements.map sE)), .t (.lst (t.dirs.map Dir.enc)), .t (.lst (t.fields.map Field.enc)), .t (.lst (t.members.map Member.enc)), .t (.lst (t.inputs.map Input.enc))])), (1, (.cells [.t (.str x.name), .t (.lst (x.args.map Input.enc)), .t (.str x.ty.name), .t (.lst (x.ty.wraps.map nE)), .t (.lst (x.dirs.map Dir.enc))])), (2, (.cells [.t (.lst (g.doc.map Def.enc))])), (3, .arr A.length)], 4⟩ } := by
      intro A hA hR
      rw [e2] at hR
      refine fR rfl ?_
      refine caG rfl rfl (fun hg => ⟨_, rfl, one_ok H x.dirs hx.d ([114, 101, 113, 117, 105, 114, 101, 115] : Str), rfl⟩) rfl rfl ?_
      skip
      refine caG rfl rfl (fun hg => ⟨_, rfl, rOutside_ok H g.doc hgg t ht (setM x.dirs ([114, 101, 113, 117, 105, 114, 101, 115] : Str)) (by omega), rfl⟩) rfl rfl ?_
      refine fM rfl ?_
      refine caG rfl rfl (fun hg => ⟨_, rfl, hsk, rfl⟩) rfl rfl ?_
      refine lMG rfl rfl rfl rfl ?_
      refine fM rfl ?_
      refine caG rfl rfl (fun hg => ⟨_, rfl, asked_ok H gs hl gk hk t.name x.name, rfl⟩) rfl rfl ?_
      refine fM rfl ?_
      refine Run.cond rfl rfl (fun hc => ?_) (fun hc => ?_)
      · rw [show (hasD ([114, 101, 113, 117, 105, 114, 101, 115] : Str) x.dirs && (((hasD ([101, 120, 116, 101, 114, 110, 97, 108] : Str) x.dirs || !outM g.doc t (setM x.dirs ([114, 101, 113, 117, 105, 114, 101, 115] : Str))) || (((keysD t.dirs).length : Int) == 0)) || gs.any (leaG t.name x.name))) = true by simpa using hc] at hR
        refine fR rfl ?_
        refine apM nE A [(43 : Int)] rfl rfl rfl rfl rfl ?_ (h1 := by simp; omega) (h2 := by simp; omega)
        refine Mid.fast (f := 2) rfl trivial ?_
        refine rWeakN 0 4 rfl (g3 (A ++ [43]) (by simp; omega) (by rw [← hR]; simp [ifN])) (by exact rfl) (by exact rfl) (by exact rfl)
      · rw [show (hasD ([114, 101, 113, 117, 105, 114, 101, 115] : Str) x.dirs && (((hasD ([101, 120, 116, 101, 114, 110, 97, 108] : Str) x.dirs || !outM g.doc t (setM x.dirs ([114, 101, 113, 117, 105, 114, 101, 115] : Str))) || (((keysD t.dirs).length : Int) == 0)) || gs.any (leaG t.name x.name))) = false by simpa using hc] at hR
        refine rWeakN 1 4 rfl (g3 A (by omega) (by rw [← hR]; simp [ifN])) (by exact rfl) (by exact rfl) (by exact rfl)
    refine FnOk.run H.i50 H.mixed rfl rfl ?_
    refine fR rfl ?_
    refine Mid.elemMap rfl rfl rfl ha rfl rfl ?_
    refine fM rfl ?_
    refine Mid.call (hasD_ok H.toPr23 25 x.dirs hx.d.len ([101, 120, 116, 101, 114, 110, 97, 108] : Str) (.inr rfl)) rfl rfl rfl rfl ?_
    refine fM rfl ?_
    refine Mid.call (hasD_ok H.toPr23 25 x.dirs hx.d.len ([114, 101, 113, 117, 105, 114, 101, 115] : Str) (.inr rfl)) rfl rfl rfl rfl ?_
    refine fM rfl ?_
    refine caG rfl rfl (fun hg => ⟨_, rfl, rMentioned_ok H g hgg t ht htk x.name, rfl⟩) rfl rfl ?_
    refine fM rfl ?_
    refine caG rfl rfl (fun hg => ⟨_, rfl, elsewhere_ok H gs hl gk a t.name x.name, rfl⟩) rfl rfl ?_
    refine fM rfl ?_
    rw [e1] at hR
    refine Run.cond rfl rfl (fun hc => ?_) (fun hc => ?_)
    · rw [show (hasD ([101, 120, 116, 101, 114, 110, 97, 108] : Str) x.dirs && (!menM g.doc t x.name || !othM a t.name x.name 0 gs)) = true by simpa using hc] at hR
      refine fR rfl ?_
      refine apN nE [(42 : Int)] rfl rfl rfl ?_ (h1 := by decide) (h2 := by decide)
      refine Mid.fast (f := 2) rfl trivial ?_
      refine rWeakN 0 4 rfl (g2 [42] (by simp) (by rw [← hR]; simp [ifN])) (by exact rfl) (by exact rfl) (by exact rfl)
    · rw [show (hasD ([101, 120, 116, 101, 114, 110, 97, 108] : Str) x.dirs && (!menM g.doc t x.name || !othM a t.name x.name 0 gs)) = false by simpa using hc] at hR
      refine rWeakN 1 3 rfl (g2 [] (by simp) (by rw [← hR]; simp [ifN])) (by exact rfl) (by exact rfl) (by exact rfl)
  exact hR _ rfl
end Go.GB.C23


/-
  ZG25C: the reference's keys, joins and violations of graphs; the law that they are those of the program.
-/
namespace Go.GB.C23
open Go.GB Go.GB.C11
set_option linter.unusedSimpArgs false
set_option linter.unusedVariables false
set_option maxRecDepth 100000
set_option maxHeartbeats 4000000
variable {P : Program}

theorem placeM_eq (g : Graph) (t : Def) (x : Field) : g.name ++ [58] ++ t.name ++ [46] ++ x.name = placeM g t x := by unfold placeM; simp
theorem rFaults_ok (H : PrZ P) (gs : List Graph) (hl : gs.length ≤ 140737488355328) (gk : ∀ g, g ∈ gs → GK g.doc) (hk : ∀ g, g ∈ gs → KRs g.doc) (a : Nat) (g : Graph) (ha : gs[a]? = some g) (gn : g.name.length ≤ 140737488355328) (t : Def) (ht : TK t) (htk : KR t.dirs) (hlen : (keyL g t 0 (keysD t.dirs) ++ fL gs a g t t.fields).length ≤ 549755813888) :
    FnOk P 23 [.t (.lst (gs.map Graph.enc)), .t (.int .i64 a), t.v] ⟨[], 0⟩ { v := .t (.lst ((keyL g t 0 (keysD t.dirs) ++ fL gs a g t t.fields).map Fault.enc)) } := by
  have hgg := gk g (List.mem_of_getElem? ha)
  have hdl := ht.d.l
  have htl := ht.fl
  have htn := ht.nm
  have hsk := sets25_ok H t.dirs ht.d ([107, 101, 121] : Str)
  rw [htk] at hsk
  have hkl := keysD_len t.dirs
  have hkm := fun k (h : k ∈ keysD t.dirs) => keysD_mem h
  generalize keysD t.dirs = K at hsk hkl hkm hlen ⊢
  have hR : ∀ R, keyL g t 0 K ++ fL gs a g t t.fields = R → R.length ≤ 549755813888 → FnOk P 23 [.t (.lst (gs.map Graph.enc)), .t (.int .i64 a), t.v] ⟨[], 0⟩ { v := .t (.lst (R.map Fault.enc)) } := by
    intro R hR hlen
    refine FnOk.run H.i23 H.mixed rfl rfl ?_
    refine fR rfl ?_
    refine Mid.elemMap rfl rfl rfl ha rfl rfl ?_
    refine fM rfl ?_
    refine pu rfl ?_
    refine fM rfl ?_
    refine pu rfl ?_
    refine fM rfl ?_
    refine Mid.call (hsk) rfl rfl rfl rfl ?_
    refine fM rfl ?_
    refine rList K (fun i (B : List Fault) => { env := [(0, .t (.lst (gs.map Graph.enc))), (1, .t (.int .i64 a)), (5, .ptr 0 0), (7, .t (.str (g.name ++ [58] ++ t.name))), (8, .own 1 2 (B.map Fault.enc)), (9, .t (.lst (K.map lE))), (10, .t (.int .i64 i))], s := ⟨[(0, (.cells [.t (.int .i64 t.kind), .t (.str t.name), .t (.lst (t.implements.map sE)), .t (.lst (t.dirs.map Dir.enc)), .t (.lst (t.fields.map Field.enc)), .t (.lst (t.members.map Member.enc)), .t (.lst (t.inputs.map Input.enc))])), (1, .arr B.length)], 2⟩ }) (fun r i B => B ++ (keyL g t i r ++ fL gs a g t t.fields) = R) 1 [] rfl hR rfl rfl rfl ?_ ?_
    · rintro B hB
      refine fR rfl ?_
      refine lM rfl rfl rfl ?_
      refine fM rfl ?_
      refine Run.condF rfl rfl (by simp) ?_
      refine fR rfl ?_
      refine rList t.fields (fun j (B : List Fault) => { env := [(0, .t (.lst (gs.map Graph.enc))), (1, .t (.int .i64 a)), (5, .ptr 0 0), (7, .t (.str (g.name ++ [58] ++ t.name))), (8, .own 1 2 (B.map Fault.enc)), (11, .t (.int .i64 j))], s := ⟨[(0, (.cells [.t (.int .i64 t.kind), .t (.str t.name), .t (.lst (t.implements.map sE)), .t (.lst (t.dirs.map Dir.enc)), .t (.lst (t.fields.map Field.enc)), .t (.lst (t.members.map Member.enc)), .t (.lst (t.inputs.map Input.enc))])), (1, .arr B.length)], 2⟩ }) (fun r j B => B ++ fL gs a g t r = R) 2 B rfl (by rw [← hB]; rfl) rfl rfl rfl ?_ ?_
      · rintro B hB
        obtain rfl : B = R := by rw [← hB]; simp [fL]
        refine fR rfl ?_
        refine lM rfl rfl rfl ?_
        refine fM rfl ?_
        refine Run.condF rfl rfl (by simp) ?_
        refine fR rfl ?_
        refine Run.fin rfl (EndOk.go ?_); exact .own rfl
      · rintro j x r B h2 hj hjd hB ih2
        have hx := ht.f x (List.mem_of_getElem? h2)
        have hxn := hx.nm
        have hc := fieldFaults_ok H gs hl gk hk a g ha t ht htk x hx
        have hcl := codesM_len gs a g t x
        rw [fL, fieldF_codes] at hB
        generalize codesM gs a g t x = C at hc hcl hB
        refine fR rfl ?_
        refine lM rfl rfl rfl ?_
        refine fM rfl ?_
        refine Run.condT rfl rfl (by simp; omega) ?_
        refine fR rfl ?_
        refine Mid.elemMap rfl rfl rfl h2 rfl rfl ?_
        refine fM rfl ?_
        refine Mid.call (hc) rfl rfl rfl rfl ?_
        refine fM rfl ?_
        refine rList C (fun m (D : List Fault) => { env := [(0, .t (.lst (gs.map Graph.enc))), (1, .t (.int .i64 a)), (5, .ptr 0 0), (7, .t (.str (g.name ++ [58] ++ t.name))), (8, .own 1 2 (D.map Fault.enc)), (11, .t (.int .i64 j)), (12, .t (.lst (C.map nE))), (13, .t (.int .i64 m))], s := ⟨[(0, (.cells [.t (.int .i64 t.kind), .t (.str t.name), .t (.lst (t.implements.map sE)), .t (.lst (t.dirs.map Dir.enc)), .t (.lst (t.fields.map Field.enc)), .t (.lst (t.members.map Member.enc)), .t (.lst (t.inputs.map Input.enc))])), (1, .arr D.length)], 2⟩ }) (fun r3 m D => D ++ (r3.map (fun e => (⟨e, placeM g t x⟩ : Fault)) ++ fL gs a g t r) = R) 2 B rfl hB rfl rfl rfl ?_ ?_
        · rintro D hD
          refine fR rfl ?_
          refine lM rfl rfl rfl ?_
          refine fM rfl ?_
          refine Run.condF rfl rfl (by simp) ?_
          refine fR rfl ?_
          refine aL rfl rfl rfl rfl rfl ?_
          refine fM rfl ?_
          exact rWeak 2 rfl (ih2 D (by rw [← hD]; rfl)) rfl rfl rfl
        · rintro m e r3 D h3 hm hmd hD ih3
          have hlD := congrArg List.length hD
          simp only [List.length_append] at hlD
          refine fR rfl ?_
          refine lM rfl rfl rfl ?_
          refine fM rfl ?_
          refine Run.condT rfl rfl (by simp; omega) ?_
          refine fR rfl ?_
          refine Mid.elemMap rfl rfl rfl h3 rfl rfl ?_
          refine fM rfl ?_
          refine pu rfl ?_
          refine fM rfl ?_
          refine Mid.elemMap rfl rfl rfl h2 rfl rfl ?_
          refine fM rfl ?_
          refine pu rfl ?_
          refine fM rfl ?_
          refine apM Fault.enc D [(⟨e, g.name ++ [58] ++ t.name ++ [46] ++ x.name⟩ : Fault)] rfl rfl rfl rfl rfl ?_ (h1 := by first | omega | (simp; omega) | (simp; done)) (h2 := by first | omega | (simp; omega) | (simp; done))
          refine fM rfl ?_
          refine aL rfl rfl rfl rfl rfl ?_
          refine fM rfl ?_
          exact rWeak 2 rfl (ih3 (D ++ [⟨e, g.name ++ [58] ++ t.name ++ [46] ++ x.name⟩]) (by rw [placeM_eq, ← hD]; simp)) rfl rfl rfl
    · rintro i k r B h1 hi hdr hB ih
      have hkk := hkm k (List.mem_of_getElem? h1)
      have hlB := congrArg List.length hB
      simp only [List.length_append] at hlB
      rw [keyL, keyR_eq] at hB
      refine fR rfl ?_
      refine lM rfl rfl rfl ?_
      refine fM rfl ?_
      refine Run.condT rfl rfl (by simp; omega) ?_
      refine fR rfl ?_
      refine elG rfl rfl rfl rfl ha rfl rfl ?_
      refine fM rfl ?_
      refine elG rfl rfl rfl rfl h1 rfl rfl ?_
      refine fM rfl ?_
      refine caG rfl rfl (fun hg => ⟨_, rfl, keyRight_ok H g.doc hgg t ht k hkk, rfl⟩) rfl rfl ?_
      refine fM rfl ?_
      refine Run.cond rfl rfl (fun hc => ?_) (fun hc => ?_)
      · rw [show (decide ((i : Int) ≥ 4) || !keyR g.doc t k) = true from hc] at hB
        refine fR rfl ?_
        refine apM Fault.enc B [(⟨41, g.name ++ [58] ++ t.name⟩ : Fault)] rfl rfl rfl rfl rfl ?_ (h1 := by first | omega | (simp; omega) | (simp; done)) (h2 := by first | omega | (simp; omega) | (simp; done))
        refine fM rfl ?_
        refine aL rfl rfl rfl rfl rfl ?_
        refine fM rfl ?_
        exact rWeak 2 rfl (ih (B ++ [⟨41, g.name ++ [58] ++ t.name⟩]) (by rw [← hB]; simp [ifM])) rfl rfl rfl
      · rw [show (decide ((i : Int) ≥ 4) || !keyR g.doc t k) = false from hc] at hB
        refine fR rfl ?_
        refine aL rfl rfl rfl rfl rfl ?_
        refine fM rfl ?_
        exact rWeak 2 rfl (ih B (by rw [← hB]; rfl)) rfl rfl rfl
  exact hR _ rfl hlen

theorem rJoins_ok (H : PrZ P) (gs : List Graph) (hB : JoinsB gs) (hkr : ∀ g, g ∈ gs → KRs g.doc) : FnOk P 8 [.t (.lst (gs.map Graph.enc))] ⟨[], 0⟩
    { v := .tup [.t (.lst ((if bAll gs 0 gs = [] then kAll 0 gs else []).map KeyO.enc)), .t (.lst ((if bAll gs 0 gs = [] then jAll 0 gs else []).map Jn.enc)), .t (.lst ((bAll gs 0 gs).map Fault.enc))] } := by
  have hl := hB.l
  have hk := hB.k
  have hj := hB.j
  have hb := hB.b
  generalize hK : kAll 0 gs = K at hk ⊢
  generalize hJ : jAll 0 gs = J at hj ⊢
  generalize hF : bAll gs 0 gs = F at hb ⊢
  refine FnOk.run H.i8 H.mixed rfl rfl ?_
  refine fR rfl ?_
  refine rList gs (fun i (A : Acc) => { env := [(0, .t (.lst (gs.map Graph.enc))), (5, .own 0 3 (A.k.map KeyO.enc)), (6, .own 1 6 (A.j.map Jn.enc)), (7, .own 2 2 (A.b.map Fault.enc)), (8, .t (.int .i64 i))], s := ⟨[(0, .arr A.k.length), (1, .arr A.j.length), (2, .arr A.b.length)], 3⟩ }) (fun r i A => (A.k ++ kAll i r = K ∧ A.j ++ jAll i r = J) ∧ A.b ++ bAll gs i r = F) 0 ⟨[], [], []⟩ rfl ⟨⟨hK, hJ⟩, hF⟩ rfl rfl rfl ?_ ?_ (he := (by repeat' (first | exact trivial | exact LeX.t | exact LeX.top | exact LeX.nilOwn (Nat.le_of_ble_eq_true rfl) (Nat.le_of_ble_eq_true rfl) | exact LeX.ownT | exact LeX.nilT | exact LeX.same rfl | exact LeX.tEq (by simp) | exact LeX.ownEq (by simp) (Nat.le_of_ble_eq_true rfl) | exact LeX.tEq (by congr 1 <;> omega) | exact Or.inr ⟨Nat.le_of_ble_eq_true rfl, Nat.le_of_ble_eq_true rfl, rfl⟩ | refine Or.inl ⟨Nat.le_of_ble_eq_true rfl, _, rfl, ?_⟩ | refine LeO.cells ?_ | exact LeO.arr rfl | exact LeO.arr (by simp) | exact LeO.mE (by first | rfl | simp) (by first | exact Or.inl rfl | exact Or.inr rfl) | exact LeO.cE (by first | rfl | simp) | exact LeXs.cE (by first | rfl | simp) | refine LeO.map (by first | rfl | simp) ?_ (by first | exact Or.inl rfl | exact Or.inr rfl) | exact LeO.iter (by first | rfl | simp) (Nat.le_of_ble_eq_true rfl) | refine LeXs.cons ?_ ?_ | exact LeXs.nil | refine And.intro ?_ ?_))) (hs := (by repeat' (first | exact trivial | exact LeX.t | exact LeX.top | exact LeX.nilOwn (Nat.le_of_ble_eq_true rfl) (Nat.le_of_ble_eq_true rfl) | exact LeX.ownT | exact LeX.nilT | exact LeX.same rfl | exact LeX.tEq (by simp) | exact LeX.ownEq (by simp) (Nat.le_of_ble_eq_true rfl) | exact LeX.tEq (by congr 1 <;> omega) | exact Or.inr ⟨Nat.le_of_ble_eq_true rfl, Nat.le_of_ble_eq_true rfl, rfl⟩ | refine Or.inl ⟨Nat.le_of_ble_eq_true rfl, _, rfl, ?_⟩ | refine LeO.cells ?_ | exact LeO.arr rfl | exact LeO.arr (by simp) | exact LeO.mE (by first | rfl | simp) (by first | exact Or.inl rfl | exact Or.inr rfl) | exact LeO.cE (by first | rfl | simp) | exact LeXs.cE (by first | rfl | simp) | refine LeO.map (by first | rfl | simp) ?_ (by first | exact Or.inl rfl | exact Or.inr rfl) | exact LeO.iter (by first | rfl | simp) (Nat.le_of_ble_eq_true rfl) | refine LeXs.cons ?_ ?_ | exact LeXs.nil | refine And.intro ?_ ?_)))
  · rintro ⟨k, j, b⟩ ⟨⟨h1, h2⟩, h3⟩
    obtain rfl : k = K := by rw [← h1]; simp [kAll]
    obtain rfl : j = J := by rw [← h2]; simp [jAll]
    obtain rfl : b = F := by rw [← h3]; simp [bAll]
    dsimp only
    refine fR rfl ?_
    refine lM rfl rfl rfl ?_
    refine fM rfl ?_
    refine Run.condF rfl rfl (by simp) ?_
    refine fR rfl ?_
    refine lM rfl rfl rfl ?_
    refine fM rfl ?_
    refine Run.cond rfl rfl (fun hc => ?_) (fun hc => ?_)
    · have hc' : ¬ b = [] := by intro e; rw [e] at hc; simp at hc
      rw [if_neg hc', if_neg hc']
      refine fR rfl ?_
      refine Run.fin rfl (EndOk.go ?_); exact .tup3 (.nil rfl) (.nil rfl) (.own rfl)
    · have hc' : b = [] := by
        have : b.length = 0 := by simp at hc; simp [hc]
        exact List.length_eq_zero_iff.1 this
      subst hc'
      rw [if_pos rfl, if_pos rfl]
      refine fR rfl ?_
      refine Run.fin rfl (EndOk.go ?_); exact .tup3 (.own rfl) (.own rfl) (.nil rfl)
  · rintro i g r A h1 hi hd ⟨⟨e1, e2⟩, e3⟩ ih
    have hg := hB.g g (List.mem_of_getElem? h1)
    have hgr := hkr g (List.mem_of_getElem? h1)
    have hgl := hg.l
    refine fR rfl ?_
    refine lM rfl rfl rfl ?_
    refine fM rfl ?_
    refine Run.condT rfl rfl (by simp; omega) ?_
    refine fR rfl ?_
    refine rList g.doc (fun m (A : Acc) => { env := [(0, .t (.lst (gs.map Graph.enc))), (5, .own 0 3 (A.k.map KeyO.enc)), (6, .own 1 6 (A.j.map Jn.enc)), (7, .own 2 2 (A.b.map Fault.enc)), (8, .t (.int .i64 i)), (9, .t (.int .i64 m))], s := ⟨[(0, .arr A.k.length), (1, .arr A.j.length), (2, .arr A.b.length)], 3⟩ }) (fun r1 m A => (A.k ++ (kDefs i r1 ++ kAll (i + 1) r) = K ∧ A.j ++ (jDefs i r1 ++ jAll (i + 1) r) = J) ∧ A.b ++ (bDefs gs i g r1 ++ bAll gs (i + 1) r) = F) 3 A rfl ⟨⟨e1, e2⟩, e3⟩ rfl rfl rfl ?_ ?_
    · rintro A ⟨⟨e1, e2⟩, e3⟩
      refine fR rfl ?_
      refine Mid.elemMap rfl rfl rfl h1 rfl rfl ?_
      refine fM rfl ?_
      refine lM rfl rfl rfl ?_
      refine fM rfl ?_
      refine Run.condF rfl rfl (by simp) ?_
      refine fR rfl ?_
      refine aL rfl rfl rfl rfl rfl ?_
      refine fM rfl ?_
      exact rWeak 3 rfl (ih A ⟨⟨by rw [← e1]; simp [kDefs], by rw [← e2]; simp [jDefs]⟩, by rw [← e3]; simp [bDefs]⟩) rfl rfl rfl
    · rintro m t r1 A h2 hm hmd ⟨⟨e1, e2⟩, e3⟩ ih1
      have ht := hg.t t (List.mem_of_getElem? h2)
      have htr := hgr t (List.mem_of_getElem? h2)
      have htl := ht.fl
      have hdl := ht.d.l
      have hkl := keysD_len t.dirs
      have hlk := congrArg List.length e1
      have hlj := congrArg List.length e2
      have hlb := congrArg List.length e3
      simp only [kDefs, jDefs, bDefs] at e1 e2 e3 hlk hlj hlb
      simp only [List.length_append] at hlk hlj hlb
      refine fR rfl ?_
      refine Mid.elemMap rfl rfl rfl h1 rfl rfl ?_
      refine fM rfl ?_
      refine lM rfl rfl rfl ?_
      refine fM rfl ?_
      refine Run.condT rfl rfl (by simp; omega) ?_
      refine fR rfl ?_
      refine Mid.elemMap rfl rfl rfl h1 rfl rfl ?_
      refine fM rfl ?_
      refine Mid.elemMap rfl rfl rfl h2 rfl rfl ?_
      refine fM rfl ?_
      by_cases hk1 : t.kind = 1
      · rw [kDef, if_pos hk1] at e1 hlk
        rw [jDef, if_pos hk1] at e2 hlj
        rw [bDef, if_pos hk1] at e3 hlb
        have hsk := sets25_ok H t.dirs ht.d ([107, 101, 121] : Str)
        rw [htr] at hsk
        have hft := rFaults_ok H gs hl hB.g hkr i g h1 (hB.n g (List.mem_of_getElem? h1)) t ht htr (by simp only [List.length_append]; simp only [List.length_append] at hlb; omega)
        generalize keyL g t 0 (keysD t.dirs) ++ fL gs i g t t.fields = N1 at hft e3 hlb
        generalize keysD t.dirs = KS at hkl e1 hlk hsk
        refine Run.condF rfl rfl (by simp [hk1]) ?_
        refine fR rfl ?_
        refine Mid.call (hft) rfl rfl rfl rfl ?_
        skip
        refine apM Fault.enc A.b N1 rfl rfl rfl rfl rfl ?_ (h1 := by first | omega | (simp; omega) | (simp; done)) (h2 := by first | omega | (simp; omega) | (simp; done))
        refine fM rfl ?_
        refine Mid.call (hsk) rfl rfl rfl rfl ?_
        refine fM rfl ?_
        refine rList KS (fun q (C : List KeyO) => { env := [(0, .t (.lst (gs.map Graph.enc))), (5, .own 0 3 (C.map KeyO.enc)), (6, .own 1 6 (A.j.map Jn.enc)), (7, .own 2 2 ((A.b ++ N1).map Fault.enc)), (8, .t (.int .i64 i)), (9, .t (.int .i64 m)), (10, .ptr 3 0), (11, .t (.lst (KS.map lE))), (12, .t (.int .i64 q))], s := ⟨[(0, .arr C.length), (1, .arr A.j.length), (2, .arr (A.b ++ N1).length), (3, (.cells [.t (.int .i64 t.kind), .t (.str t.name), .t (.lst (t.implements.map sE)), .t (.lst (t.dirs.map Dir.enc)), .t (.lst (t.fields.map Field.enc)), .t (.lst (t.members.map Member.enc)), .t (.lst (t.inputs.map Input.enc))]))], 4⟩ }) (fun r2 q C => C ++ (r2.map (keyOf i t) ++ (kDefs i r1 ++ kAll (i + 1) r)) = K) 4 A.k rfl (by rw [← e1]; simp) rfl rfl rfl ?_ ?_
        · rintro C hC
          refine fR rfl ?_
          refine lM rfl rfl rfl ?_
          refine fM rfl ?_
          refine Run.condF rfl rfl (by simp) ?_
          refine fR rfl ?_
          refine rList t.fields (fun q (B : List Jn) => { env := [(0, .t (.lst (gs.map Graph.enc))), (5, .own 0 3 (C.map KeyO.enc)), (6, .own 1 6 (B.map Jn.enc)), (7, .own 2 2 ((A.b ++ N1).map Fault.enc)), (8, .t (.int .i64 i)), (9, .t (.int .i64 m)), (10, .ptr 3 0), (13, .t (.int .i64 q))], s := ⟨[(0, .arr C.length), (1, .arr B.length), (2, .arr (A.b ++ N1).length), (3, (.cells [.t (.int .i64 t.kind), .t (.str t.name), .t (.lst (t.implements.map sE)), .t (.lst (t.dirs.map Dir.enc)), .t (.lst (t.fields.map Field.enc)), .t (.lst (t.members.map Member.enc)), .t (.lst (t.inputs.map Input.enc))]))], 4⟩ }) (fun r2 q B => B ++ (r2.map (jnOf i t) ++ (jDefs i r1 ++ jAll (i + 1) r)) = J) 4 A.j rfl (by rw [← e2]; simp) rfl rfl rfl ?_ ?_
          · rintro B g1
            refine fR rfl ?_
            refine lM rfl rfl rfl ?_
            refine fM rfl ?_
            refine Run.condF rfl rfl (by simp) ?_
            refine fR rfl ?_
            refine aL rfl rfl rfl rfl rfl ?_
            refine fM rfl ?_
            exact rWeak 3 rfl (ih1 ⟨C, B, A.b ++ N1⟩ ⟨⟨by rw [← hC]; simp, by rw [← g1]; simp⟩, by rw [← e3]; simp⟩) rfl rfl rfl
          · rintro q x r2 B h3 hq hqd g1 ih2
            have hx := ht.f x (List.mem_of_getElem? h3)
            have hl1 := congrArg List.length g1
            simp only [List.length_append, List.length_map, List.length_cons] at hl1
            refine fR rfl ?_
            refine lM rfl rfl rfl ?_
            refine fM rfl ?_
            refine Run.condT rfl rfl (by simp; omega) ?_
            refine fR rfl ?_
            refine Mid.elemMap rfl rfl rfl h3 rfl rfl ?_
            refine fM rfl ?_
            refine Mid.call (hasD_ok H.toPr23 25 x.dirs hx.d.len ([101, 120, 116, 101, 114, 110, 97, 108] : Str) (.inr rfl)) rfl rfl rfl rfl ?_
            refine fM rfl ?_
            refine Mid.call (one_ok H x.dirs hx.d ([114, 101, 113, 117, 105, 114, 101, 115] : Str)) rfl rfl rfl rfl ?_
            refine fM rfl ?_
            refine Mid.call (one_ok H x.dirs hx.d ([112, 114, 111, 118, 105, 100, 101, 115] : Str)) rfl rfl rfl rfl ?_
            refine fM rfl ?_
            refine apM Jn.enc B [jnOf i t x] rfl rfl rfl rfl rfl ?_ (h1 := by first | omega | (simp; omega) | (simp; done)) (h2 := by first | omega | (simp; omega) | (simp; done))
            refine fM rfl ?_
            refine aL rfl rfl rfl rfl rfl ?_
            refine fM rfl ?_
            exact rWeak 4 rfl (ih2 (B ++ [jnOf i t x]) (by rw [← g1]; simp)) rfl rfl rfl
        · rintro q ks r2 C h3 hq hqd hC ih2
          have hlC := congrArg List.length hC
          simp only [List.length_append, List.length_map, List.length_cons] at hlC
          refine fR rfl ?_
          refine lM rfl rfl rfl ?_
          refine fM rfl ?_
          refine Run.condT rfl rfl (by simp; omega) ?_
          refine fR rfl ?_
          refine Mid.elemMap rfl rfl rfl h3 rfl rfl ?_
          refine fM rfl ?_
          refine apM KeyO.enc C [keyOf i t ks] rfl rfl rfl rfl rfl ?_ (h1 := by first | omega | (simp; omega) | (simp; done)) (h2 := by first | omega | (simp; omega) | (simp; done))
          refine fM rfl ?_
          refine aL rfl rfl rfl rfl rfl ?_
          refine fM rfl ?_
          exact rWeak 4 rfl (ih2 (C ++ [keyOf i t ks]) (by rw [← hC]; simp)) rfl rfl rfl
      · rw [kDef, if_neg hk1, List.nil_append] at e1
        rw [jDef, if_neg hk1, List.nil_append] at e2
        rw [bDef, if_neg hk1, List.nil_append] at e3
        refine Run.condT rfl rfl (by simp [hk1]) ?_
        refine fR rfl ?_
        refine aL rfl rfl rfl rfl rfl ?_
        refine fM rfl ?_
        exact rWeak 3 rfl (ih1 A ⟨⟨e1, e2⟩, e3⟩) rfl rfl rfl

/- lists that are the same -/
theorem sameKeys_ok (H : PrZ P) (l : List KeyO) (hl : l.length ≤ 140737488355328) (hk : ∀ k, k ∈ l → k.fields.length ≤ 140737488355328) : FnOk P 9 [.t (.lst (l.map KeyO.enc)), .t (.lst (l.map KeyO.enc))] ⟨[], 0⟩ { v := .t (.bool true) } := by
  refine FnOk.run H.i9 H.mixed rfl rfl ?_
  refine fR rfl ?_
  refine lM rfl rfl rfl ?_
  refine fM rfl ?_
  refine lM rfl rfl rfl ?_
  refine fM rfl ?_
  refine Run.condF rfl rfl (by simp) ?_
  refine fR rfl ?_
  refine rList l (fun i (_ : Unit) => { env := [(0, .t (.lst (l.map KeyO.enc))), (1, .t (.lst (l.map KeyO.enc))), (5, .t (.int .i64 i))], s := ⟨[], 0⟩ }) (fun r i _ => True) 0 () rfl trivial rfl rfl rfl ?_ ?_
  · rintro _ _
    refine fR rfl ?_
    refine lM rfl rfl rfl ?_
    refine fM rfl ?_
    refine Run.condF rfl rfl (by simp) ?_
    refine fR rfl ?_
    refine Run.fin rfl (EndOk.go ?_); exact .t rfl
  · rintro i x r _ h1 hi hd _ ih
    have hx := hk x (List.mem_of_getElem? h1)
    refine fR rfl ?_
    refine lM rfl rfl rfl ?_
    refine fM rfl ?_
    refine Run.condT rfl rfl (by simp; omega) ?_
    refine fR rfl ?_
    refine Mid.elemMap rfl rfl rfl h1 rfl rfl ?_
    refine fM rfl ?_
    refine Mid.elemMap rfl rfl rfl h1 rfl rfl ?_
    refine fM rfl ?_
    refine elG rfl rfl rfl rfl h1 rfl rfl ?_
    refine fM rfl ?_
    refine elG rfl rfl rfl rfl h1 rfl rfl ?_
    refine fM rfl ?_
    refine elG rfl rfl rfl rfl h1 rfl rfl ?_
    refine fM rfl ?_
    refine elG rfl rfl rfl rfl h1 rfl rfl ?_
    refine fM rfl ?_
    refine caG rfl rfl (fun hg => ⟨_, rfl, texts_ok H.toPr25 x.fields x.fields hx hx, rfl⟩) rfl rfl ?_
    refine fM rfl ?_
    refine Run.condF rfl rfl (by simp) ?_
    refine fR rfl ?_
    refine aL rfl rfl rfl rfl rfl ?_
    refine fM rfl ?_
    exact rWeak 0 rfl (ih () trivial) rfl rfl rfl
theorem sameJoins_ok (H : PrZ P) (l : List Jn) (hl : l.length ≤ 140737488355328) (hk : ∀ k, k ∈ l → k.Ok) : FnOk P 10 [.t (.lst (l.map Jn.enc)), .t (.lst (l.map Jn.enc))] ⟨[], 0⟩ { v := .t (.bool true) } := by
  refine FnOk.run H.i10 H.mixed rfl rfl ?_
  refine fR rfl ?_
  refine lM rfl rfl rfl ?_
  refine fM rfl ?_
  refine lM rfl rfl rfl ?_
  refine fM rfl ?_
  refine Run.condF rfl rfl (by simp) ?_
  refine fR rfl ?_
  refine rList l (fun i (_ : Unit) => { env := [(0, .t (.lst (l.map Jn.enc))), (1, .t (.lst (l.map Jn.enc))), (5, .t (.int .i64 i))], s := ⟨[], 0⟩ }) (fun r i _ => True) 0 () rfl trivial rfl rfl rfl ?_ ?_
  · rintro _ _
    refine fR rfl ?_
    refine lM rfl rfl rfl ?_
    refine fM rfl ?_
    refine Run.condF rfl rfl (by simp) ?_
    refine fR rfl ?_
    refine Run.fin rfl (EndOk.go ?_); exact .t rfl
  · rintro i x r _ h1 hi hd _ ih
    have hx := hk x (List.mem_of_getElem? h1)
    refine fR rfl ?_
    refine lM rfl rfl rfl ?_
    refine fM rfl ?_
    refine Run.condT rfl rfl (by simp; omega) ?_
    refine fR rfl ?_
    refine Mid.elemMap rfl rfl rfl h1 rfl rfl ?_
    refine fM rfl ?_
    refine Mid.elemMap rfl rfl rfl h1 rfl rfl ?_
    refine fM rfl ?_
    refine Mid.call (sameJ_ok H.toPr25 x hx) rfl rfl rfl rfl ?_
    refine fM rfl ?_
    refine Run.condF rfl rfl (by simp) ?_
    refine fR rfl ?_
    refine aL rfl rfl rfl rfl rfl ?_
    refine fM rfl ?_
    exact rWeak 0 rfl (ih () trivial) rfl rfl rfl
theorem sameFaults_ok (H : PrZ P) (l : List Fault) (hl : l.length ≤ 140737488355328) : FnOk P 11 [.t (.lst (l.map Fault.enc)), .t (.lst (l.map Fault.enc))] ⟨[], 0⟩ { v := .t (.bool true) } := by
  refine FnOk.run H.i11 H.mixed rfl rfl ?_
  refine fR rfl ?_
  refine lM rfl rfl rfl ?_
  refine fM rfl ?_
  refine lM rfl rfl rfl ?_
  refine fM rfl ?_
  refine Run.condF rfl rfl (by simp) ?_
  refine fR rfl ?_
  refine rList l (fun i (_ : Unit) => { env := [(0, .t (.lst (l.map Fault.enc))), (1, .t (.lst (l.map Fault.enc))), (5, .t (.int .i64 i))], s := ⟨[], 0⟩ }) (fun r i _ => True) 0 () rfl trivial rfl rfl rfl ?_ ?_
  · rintro _ _
    refine fR rfl ?_
    refine lM rfl rfl rfl ?_
    refine fM rfl ?_
    refine Run.condF rfl rfl (by simp) ?_
    refine fR rfl ?_
    refine Run.fin rfl (EndOk.go ?_); exact .t rfl
  · rintro i x r _ h1 hi hd _ ih
    refine fR rfl ?_
    refine lM rfl rfl rfl ?_
    refine fM rfl ?_
    refine Run.condT rfl rfl (by simp; omega) ?_
    refine fR rfl ?_
    refine Mid.elemMap rfl rfl rfl h1 rfl rfl ?_
    refine fM rfl ?_
    refine Mid.elemMap rfl rfl rfl h1 rfl rfl ?_
    refine fM rfl ?_
    refine p0 rfl ?_
    refine fM rfl ?_
    refine Run.condF rfl rfl (by simp [keyEq, T.eqb]) ?_
    refine fR rfl ?_
    refine aL rfl rfl rfl rfl rfl ?_
    refine fM rfl ?_
    exact rWeak 0 rfl (ih () trivial) rfl rfl rfl

/- valid graphs: keys have arguments -/
theorem usesF_nil {p : Int} {s : Str} : ∀ {l pre : List Dir}, usesF p s pre l = [] → ∀ x, x ∈ l → ∃ q, judgeF q x p = 0
  | [], _, _, x, h => by cases h
  | y :: r, pre, h, x, hx => by
    rw [usesF] at h
    obtain ⟨h1, h2⟩ := List.append_eq_nil_iff.1 h
    rcases List.mem_cons.1 hx with rfl | hx
    · refine ⟨pre, ?_⟩
      by_cases hj : judgeF pre x p = 0
      · exact hj
      · rw [if_neg hj] at h1; cases h1
    · exact usesF_nil h2 x hx
theorem judge_key {q : List Dir} {x : Dir} {p : Int} (h : judgeF q x p = 0) (hn : x.name = ([107, 101, 121] : Str)) : (argF ([102, 105, 101, 108, 100, 115] : Str) x.args).isSome = true := by
  unfold judgeF at h
  rw [hn, show ruleF ([107, 101, 121] : Str) = some ⟨1, true, [⟨([102, 105, 101, 108, 100, 115] : Str), false, 0⟩]⟩ by rfl] at h
  dsimp only at h
  split at h
  · cases h
  · split at h
    · cases h
    · unfold argsE at h
      split at h
      · cases h
      · rename_i hm
        split at h
        · cases h
        · rename_i hm
          cases ha : argF ([102, 105, 101, 108, 100, 115] : Str) x.args with
          | some v => rfl
          | none => exact absurd (show missA [⟨([102, 105, 101, 108, 100, 115] : Str), false, 0⟩] x.args = true by unfold missA; simp [ha]) hm
theorem KR_of : ∀ {l : List Dir}, (∀ x, x ∈ l → x.name = ([107, 101, 121] : Str) → (argF ([102, 105, 101, 108, 100, 115] : Str) x.args).isSome = true) → KR l
  | [], _ => rfl
  | d :: r, h => by
    have ih : setsM ([107, 101, 121] : Str) r = keysD r := KR_of fun x hx => h x (List.mem_cons_of_mem _ hx)
    show setsM ([107, 101, 121] : Str) (d :: r) = keysD (d :: r)
    unfold setsM at ih ⊢
    rw [allD_cons, List.map_append, ih, keysD]
    congr 1
    by_cases hn : d.name = ([107, 101, 121] : Str)
    · have h1 := h d (List.mem_cons_self ..) hn
      obtain ⟨v, hv⟩ := Option.isSome_iff_exists.1 h1
      rw [hv, if_pos hn]
      have e : setM [d] ([107, 101, 121] : Str) = (setF v.text).1 := by unfold setM; rw [argD, if_pos hn, hv]; rfl
      rw [e]; simp [hn]
    · rw [if_neg hn]
      cases argF ([102, 105, 101, 108, 100, 115] : Str) d.args with
      | none => rfl
      | some v => simp [hn]
theorem KRs_of {ds : List Def} (h : chkD ds = []) : KRs ds := by
  induction ds with
  | nil => intro t ht; cases ht
  | cons d r ih =>
    rw [chkD] at h
    obtain ⟨h1, h2⟩ := List.append_eq_nil_iff.1 h
    intro t ht
    rcases List.mem_cons.1 ht with rfl | ht
    · unfold defL at h1
      obtain ⟨h3, _⟩ := List.append_eq_nil_iff.1 h1
      refine KR_of fun x hx hn => ?_
      obtain ⟨q, hq⟩ := usesF_nil h3 x hx
      exact judge_key hq hn
    · exact ih h2 t ht
theorem rightG_chk {gs : List Graph} (h : rightG gs = true) : ∀ g, g ∈ gs → KRs g.doc := by
  intro g hg
  unfold rightG at h
  rw [Bool.and_eq_true] at h
  have h2 : gs.any faultyG = false := by simpa using h.2
  have h3 := (List.any_eq_false.1 h2) g hg
  unfold faultyG at h3
  have h4 : decide (((chkD g.doc).length : Int) > 0) = false := by
    cases hd : decide (((chkD g.doc).length : Int) > 0) with
    | false => rfl
    | true => rw [hd] at h3; simp at h3
  have h5 : (chkD g.doc).length = 0 := by simp at h4; simp [h4]
  exact KRs_of (List.length_eq_zero_iff.1 h5)
theorem kAll_f {k : KeyO} {gs : List Graph} {i : Nat} (h : k ∈ kAll i gs) : k.fields.length ≤ 4 := by
  obtain ⟨j, g, t, ks, _, _, _, h4, rfl⟩ := kAll_mem h
  exact keysD_mem h4
theorem jAll_ok {k : Jn} {gs : List Graph} {i : Nat} (h : k ∈ jAll i gs) : k.Ok := by
  obtain ⟨j, g, t, x, _, _, _, _, rfl⟩ := jAll_mem.1 h
  have h1 := setM_le x.dirs ([114, 101, 113, 117, 105, 114, 101, 115] : Str)
  have h2 := setM_le x.dirs ([112, 114, 111, 118, 105, 100, 101, 115] : Str)
  exact ⟨by show (setM x.dirs ([114, 101, 113, 117, 105, 114, 101, 115] : Str)).length * 16 ≤ _; omega, by show (setM x.dirs ([112, 114, 111, 118, 105, 100, 101, 115] : Str)).length * 16 ≤ _; omega⟩
theorem joins25_ok (H : PrZ P) (gs : List Graph) (hg : GsOk gs) : FnOk P 3 [.t (.lst (gs.map Graph.enc))] ⟨[], 0⟩ { v := .t (.bool true) } := by
  have hl := hg.l
  have h1 := large25_ok H.toPr25 gs (by omega) hg.u
  have h2 := right25_ok H.toPr25 gs (by omega) hg.u
  by_cases h : (largeG gs || !rightG gs) = true
  · refine FnOk.run H.i3 H.mixed rfl rfl ?_
    refine fR rfl ?_
    refine Mid.call (h1) rfl rfl rfl rfl ?_
    refine fM rfl ?_
    refine caG rfl rfl (fun hg => ⟨_, rfl, h2, rfl⟩) rfl rfl ?_
    refine fM rfl ?_
    refine Run.condT rfl rfl h ?_
    refine fR rfl ?_
    refine Mid.call (ex32_ok H.toPr25) rfl rfl rfl rfl ?_
    refine fM rfl ?_
    refine Run.fin rfl (EndOk.go ?_); exact .t rfl
  · have hf : (largeG gs || !rightG gs) = false := by simpa using h
    have hr : rightG gs = true := by
      rw [Bool.or_eq_false_iff] at hf
      simpa using hf.2
    have hkr := rightG_chk hr
    have h3 := joins_ok H.toPr25 gs hg.j
    have h4 := rJoins_ok H gs hg.j hkr
    have b1 := hg.j.k
    have b2 := hg.j.j
    have b3 := hg.j.b
    have k1 : ∀ k, k ∈ (if bAll gs 0 gs = [] then kAll 0 gs else []) → k.fields.length ≤ 140737488355328 := by
      intro k hk
      split at hk
      · have := kAll_f hk; omega
      · cases hk
    have k2 : ∀ k, k ∈ (if bAll gs 0 gs = [] then jAll 0 gs else []) → k.Ok := by
      intro k hk
      split at hk
      · exact jAll_ok hk
      · cases hk
    have k3 : ((if bAll gs 0 gs = [] then kAll 0 gs else []) : List KeyO).length ≤ 140737488355328 := by
      split
      · omega
      · simp
    have k4 : ((if bAll gs 0 gs = [] then jAll 0 gs else []) : List Jn).length ≤ 140737488355328 := by
      split
      · omega
      · simp
    generalize ((if bAll gs 0 gs = [] then kAll 0 gs else []) : List KeyO) = K at h3 h4 k1 k3
    generalize ((if bAll gs 0 gs = [] then jAll 0 gs else []) : List Jn) = J at h3 h4 k2 k4
    generalize bAll gs 0 gs = B at h3 h4 b3
    refine FnOk.run H.i3 H.mixed rfl rfl ?_
    refine fR rfl ?_
    refine Mid.call (h1) rfl rfl rfl rfl ?_
    refine fM rfl ?_
    refine caG rfl rfl (fun hg => ⟨_, rfl, h2, rfl⟩) rfl rfl ?_
    refine fM rfl ?_
    refine Run.condF rfl rfl hf ?_
    refine fR rfl ?_
    refine Mid.call (h3) rfl rfl rfl rfl ?_
    refine fM rfl ?_
    refine Mid.call (h4) rfl rfl rfl rfl ?_
    refine fM rfl ?_
    refine Mid.call (sameKeys_ok H K k3 k1) rfl rfl rfl rfl ?_
    refine fM rfl ?_
    refine caG rfl rfl (fun hg => ⟨_, rfl, sameJoins_ok H J k4 k2, rfl⟩) rfl rfl ?_
    refine fM rfl ?_
    refine caG rfl rfl (fun hg => ⟨_, rfl, sameFaults_ok H B (by omega), rfl⟩) rfl rfl ?_
    refine fM rfl ?_
    refine caG rfl rfl (fun hg => ⟨_, rfl, ex32_ok H.toPr25, rfl⟩) rfl rfl ?_
    refine fM rfl ?_
    refine Run.fin rfl (EndOk.go ?_); exact .t rfl
end Go.GB.C23


/-
  GbSh: what a law is handed, of package api's types.
-/
namespace Go.GB
open Go.RowKit
set_option linter.unusedSimpArgs false
set_option linter.unusedVariables false

def valSh : List Sh := [.int .i64, .int .i64, .str, .num 0, .lst 16 [.str]]
def argSh : List Sh := .str :: valSh
def dirSh : List Sh := [.str, .lst 96 argSh]
def refSh : List Sh := [.str, .lst 8 [.int .i64]]
def inputSh : List Sh := [.str] ++ refSh ++ [.bool] ++ valSh ++ [.lst 40 dirSh]
def fieldSh : List Sh := [.str, .lst 168 inputSh] ++ refSh ++ [.lst 40 dirSh]
def memberSh : List Sh := [.str, .lst 40 dirSh]
def defSh : List Sh := [.int .i64, .str, .lst 16 [.str], .lst 40 dirSh, .lst 104 fieldSh, .lst 40 memberSh, .lst 168 inputSh]
def docSh : List Sh := [.lst 144 defSh]
/-- lists of types that contain themselves -/
def YA : Nat → T → Prop
  | 0, x => ∃ l : List Val, x = .lst (l.map Val.enc) ∧ l.length * 80 ≤ B47 ∧ ∀ v ∈ l, v.Ok
  | _, x => ∃ l : List Pick, x = .lst (l.map Pick.enc) ∧ l.length * 160 ≤ B47 ∧ ∀ p ∈ l, p.Ok ∧ p.on.length ≤ maxLen

theorem reach_le : reachBytes ≤ 140737488355328 := by decide
theorem strs_of {Y : Nat → T → Prop} {x : T} {b : Nat} (h : (Sh.lst b [.str]).ok Y x) : ∃ l : List Str, x = .lst (l.map sE) ∧ l.length * b ≤ reachBytes ∧ ∀ s ∈ l, s.length ≤ reachBytes := by
  obtain ⟨xs, rfl, h1, _, h2⟩ := h
  obtain ⟨l, rfl, h3⟩ := choose_map (f := sE) (Q := fun s => s.length ≤ reachBytes) xs fun c hc => by
    obtain ⟨x, r, rfl, ⟨s, rfl, hs⟩, h⟩ := Sh.oks_cons (h2 c hc)
    obtain rfl := Sh.oks_nil h
    exact ⟨s, rfl, hs⟩
  exact ⟨l, rfl, by simpa using h1, h3⟩
theorem nums_of {Y : Nat → T → Prop} {x : T} {b : Nat} (h : (Sh.lst b [.int .i64]).ok Y x) : ∃ l : List Int, x = .lst (l.map nE) ∧ l.length * b ≤ reachBytes := by
  obtain ⟨xs, rfl, h1, _, h2⟩ := h
  obtain ⟨l, rfl, h3⟩ := choose_map (f := nE) (Q := fun _ => True) xs fun c hc => by
    obtain ⟨x, r, rfl, ⟨s, rfl, hs⟩, h⟩ := Sh.oks_cons (h2 c hc)
    obtain rfl := Sh.oks_nil h
    exact ⟨s, rfl, trivial⟩
  exact ⟨l, rfl, by simpa using h1⟩
theorem list_of {α : Type} {f : α → List T} {Q : α → Prop} {Y : Nat → T → Prop} {x : T} {b : Nat} {sh : List Sh} (hf : ∀ c, Sh.oks Y sh c → ∃ a, c = f a ∧ Q a) (h : (Sh.lst b sh).ok Y x) : ∃ l : List α, x = .lst (l.map f) ∧ l.length * b ≤ reachBytes ∧ l.length ≤ maxLen ∧ ∀ a ∈ l, Q a := by
  obtain ⟨xs, rfl, h1, h0, h2⟩ := h
  obtain ⟨l, rfl, h3⟩ := choose_map (f := f) (Q := Q) xs fun c hc => hf c (h2 c hc)
  exact ⟨l, rfl, by simpa using h1, by simpa using h0, h3⟩

/-- the shape of a value -/
theorem val_sh {r : List Sh} {c : List T} (h : Sh.oks YA (valSh ++ r) c) : ∃ (v : Val) (c' : List T), c = v.cs ++ c' ∧ v.Ok ∧ Sh.oks YA r c' := by
  obtain ⟨x1, c, rfl, ⟨k, rfl, _⟩, g1⟩ := Sh.oks_cons h
  obtain ⟨x2, c, rfl, ⟨i, rfl, _⟩, g2⟩ := Sh.oks_cons g1
  obtain ⟨x3, c, rfl, ⟨t, rfl, ht⟩, g3⟩ := Sh.oks_cons g2
  obtain ⟨x4, c, rfl, ⟨its, rfl, hi1, hi2⟩, g4⟩ := Sh.oks_cons g3
  obtain ⟨x5, c, rfl, hk, g5⟩ := Sh.oks_cons g4
  obtain ⟨ks, rfl, hk1, hk2⟩ := strs_of hk
  have := reach_le
  refine ⟨.mk k i t its ks, c, rfl, .mk hi1 (by unfold B47; omega) hi2 (by omega) (fun x hx => by have := hk2 x hx; omega), g5⟩
theorem val_sh0 {c : List T} (h : Sh.oks YA valSh c) : ∃ v : Val, c = v.enc ∧ v.Ok := by
  obtain ⟨v, c', rfl, h1, h2⟩ := val_sh (r := []) (by simpa using h)
  obtain rfl := Sh.oks_nil h2
  exact ⟨v, by rw [Val.enc_eq, List.append_nil], h1⟩
theorem arg_sh {c : List T} (h : Sh.oks YA argSh c) : ∃ a : Arg, c = a.enc ∧ a.Ok := by
  obtain ⟨x, c, rfl, ⟨n, rfl, _⟩, g1⟩ := Sh.oks_cons h
  obtain ⟨v, c', rfl, h1, h2⟩ := val_sh (r := []) (by simpa using g1)
  obtain rfl := Sh.oks_nil h2
  exact ⟨⟨n, v⟩, by simp [Arg.enc, Val.cs], h1⟩
theorem dir_sh {c : List T} (h : Sh.oks YA dirSh c) : ∃ a : Dir, c = a.enc ∧ a.Ok := by
  have := reach_le
  obtain ⟨x, c, rfl, ⟨n, rfl, hn⟩, g1⟩ := Sh.oks_cons h
  obtain ⟨x, c, rfl, hx, g2⟩ := Sh.oks_cons g1
  obtain rfl := Sh.oks_nil g2
  obtain ⟨l, rfl, h1, _, h2⟩ := list_of (fun c hc => arg_sh hc) hx
  exact ⟨⟨n, l⟩, rfl, ⟨by show l.length ≤ _; omega, h2, by show n.length ≤ _; omega⟩⟩
theorem dirs_sh {b : Nat} (hb : 0 < b) {x : T} (h : (Sh.lst b dirSh).ok YA x) : ∃ l : List Dir, x = .lst (l.map Dir.enc) ∧ l.length ≤ 140737488355328 ∧ ∀ d ∈ l, d.Ok := by
  have := reach_le
  obtain ⟨l, rfl, h1, _, h2⟩ := list_of (fun c hc => dir_sh hc) h
  refine ⟨l, rfl, ?_, h2⟩
  have : l.length ≤ l.length * b := Nat.le_mul_of_pos_right _ hb
  omega
theorem ref_sh {r : List Sh} {c : List T} (h : Sh.oks YA (refSh ++ r) c) : ∃ (v : Ref) (c' : List T), c = .str v.name :: .lst (v.wraps.map nE) :: c' ∧ v.Ok ∧ Sh.oks YA r c' := by
  have := reach_le
  obtain ⟨x1, c, rfl, ⟨n, rfl, hn⟩, g1⟩ := Sh.oks_cons h
  obtain ⟨x5, c, rfl, hk, g2⟩ := Sh.oks_cons g1
  obtain ⟨ks, rfl, hk1⟩ := nums_of hk
  exact ⟨⟨n, ks⟩, c, rfl, ⟨by show ks.length * 8 ≤ _; omega, by show n.length ≤ _; omega⟩, g2⟩
theorem input_sh {c : List T} (h : Sh.oks YA inputSh c) : ∃ a : Input, c = a.enc ∧ a.Ok := by
  have := reach_le
  obtain ⟨x, c, rfl, ⟨n, rfl, hn⟩, g1⟩ := Sh.oks_cons h
  obtain ⟨t, c, rfl, ht, g2⟩ := ref_sh g1
  obtain ⟨x, c, rfl, ⟨b, rfl⟩, g3⟩ := Sh.oks_cons g2
  obtain ⟨v, c, rfl, hv, g4⟩ := val_sh g3
  obtain ⟨x, c, rfl, hx, g5⟩ := Sh.oks_cons g4
  obtain rfl := Sh.oks_nil g5
  obtain ⟨l, rfl, h1, h2⟩ := dirs_sh (by decide) hx
  exact ⟨⟨n, t, b, v, l⟩, by simp [Input.enc, Val.cs], ⟨ht, hv, h1, h2, by show n.length ≤ _; omega⟩⟩
theorem inputs_sh {x : T} (h : (Sh.lst 168 inputSh).ok YA x) : ∃ l : List Input, x = .lst (l.map Input.enc) ∧ l.length ≤ 140737488355328 ∧ ∀ d ∈ l, d.Ok := by
  have := reach_le
  obtain ⟨l, rfl, h1, _, h2⟩ := list_of (fun c hc => input_sh hc) h
  exact ⟨l, rfl, by omega, h2⟩
theorem field_sh {c : List T} (h : Sh.oks YA fieldSh c) : ∃ a : Field, c = a.enc ∧ a.Ok := by
  have := reach_le
  obtain ⟨x, c, rfl, ⟨n, rfl, hn⟩, g1⟩ := Sh.oks_cons h
  obtain ⟨x, c, rfl, hx, g2⟩ := Sh.oks_cons g1
  obtain ⟨ins, rfl, i1, i2⟩ := inputs_sh hx
  obtain ⟨t, c, rfl, ht, g3⟩ := ref_sh g2
  obtain ⟨x, c, rfl, hx, g4⟩ := Sh.oks_cons g3
  obtain rfl := Sh.oks_nil g4
  obtain ⟨l, rfl, h1, h2⟩ := dirs_sh (by decide) hx
  exact ⟨⟨n, ins, t, l⟩, rfl, ⟨i1, i2, ht, h1, h2, by show n.length ≤ _; omega⟩⟩
theorem member_sh {c : List T} (h : Sh.oks YA memberSh c) : ∃ a : Member, c = a.enc ∧ a.Ok := by
  have := reach_le
  obtain ⟨x, c, rfl, ⟨n, rfl, hn⟩, g1⟩ := Sh.oks_cons h
  obtain ⟨x, c, rfl, hx, g2⟩ := Sh.oks_cons g1
  obtain rfl := Sh.oks_nil g2
  obtain ⟨l, rfl, h1, h2⟩ := dirs_sh (by decide) hx
  exact ⟨⟨n, l⟩, rfl, ⟨h1, h2, by show n.length ≤ _; omega⟩⟩
theorem def_sh {c : List T} (h : Sh.oks YA defSh c) : ∃ a : Def, c = a.enc ∧ a.Ok := by
  have := reach_le
  obtain ⟨x, c, rfl, ⟨k, rfl, _⟩, g1⟩ := Sh.oks_cons h
  obtain ⟨x, c, rfl, ⟨n, rfl, hn⟩, g2⟩ := Sh.oks_cons g1
  obtain ⟨x, c, rfl, hx, g3⟩ := Sh.oks_cons g2
  obtain ⟨im, rfl, a1, a2⟩ := strs_of hx
  obtain ⟨x, c, rfl, hx, g4⟩ := Sh.oks_cons g3
  obtain ⟨ds, rfl, b1, b2⟩ := dirs_sh (by decide) hx
  obtain ⟨x, c, rfl, hx, g5⟩ := Sh.oks_cons g4
  obtain ⟨fs, rfl, c1, _, c2⟩ := list_of (fun c hc => field_sh hc) hx
  obtain ⟨x, c, rfl, hx, g6⟩ := Sh.oks_cons g5
  obtain ⟨ms, rfl, d1, _, d2⟩ := list_of (fun c hc => member_sh hc) hx
  obtain ⟨x, c, rfl, hx, g7⟩ := Sh.oks_cons g6
  obtain ⟨is, rfl, e1, e2⟩ := inputs_sh hx
  obtain rfl := Sh.oks_nil g7
  exact ⟨⟨k, n, im, ds, fs, ms, is⟩, rfl, ⟨by show im.length ≤ _; omega, b1, b2, by show fs.length ≤ _; omega, c2, by show ms.length ≤ _; omega, d2, e1, e2, by show n.length ≤ _; omega, fun y hy => by have := a2 y hy; omega⟩⟩
theorem doc_sh {r : List Sh} {c : List T} (h : Sh.oks YA (docSh ++ r) c) : ∃ (l : List Def) (c' : List T), c = .lst (l.map Def.enc) :: c' ∧ DocOk l ∧ Sh.oks YA r c' := by
  have := reach_le
  obtain ⟨x, c, rfl, hx, g1⟩ := Sh.oks_cons h
  obtain ⟨l, rfl, h1, _, h2⟩ := list_of (fun c hc => def_sh hc) hx
  exact ⟨l, c, rfl, ⟨by omega, h2, by omega⟩, g1⟩
/-- the types that contain themselves -/
def spV (vt : TypeId) (e : TypeId) : Option Nat := if e = vt then some 0 else none
theorem val_wt {P : Program} {vt : TypeId} (hb : P.bytesOf vt = 80) (hs : shOf P (spV vt) 6 vt = some valSh) : ∀ (n : Nat) (c : List T), WT P n vt c → ∃ v : Val, c = v.enc ∧ v.Ok := by
  intro n
  induction n using Nat.strongRecOn with
  | _ n ih =>
    intro c h
    refine val_sh0 (shOf_ok (Y := YA) n 6 vt valSh c (fun e i k xs hk he hr hl hc => ?_) hs h)
    unfold spV at he
    split at he
    · rename_i e1; subst e1
      simp only [Option.some.injEq] at he; subst he
      obtain ⟨l, rfl, h3⟩ := choose_map (f := Val.enc) (Q := Val.Ok) xs fun c hcm => ih k hk c (hc c hcm)
      have := reach_le
      rw [hb] at hr
      exact ⟨l, rfl, by unfold B47; simp at hr; omega, h3⟩
    · cases he
end Go.GB


/-
  D11R: shapes of chapter 11's arguments.
-/
namespace Go.GB.C11
open Go.GB

theorem spV_ok {P : Program} {vt : TypeId} (hb : P.bytesOf vt = 80) (hs : shOf P (spV vt) 6 vt = some valSh) :
    ∀ e i n xs, spV vt e = some i → xs.length * P.bytesOf e ≤ reachBytes → xs.length ≤ maxLen → (∀ c ∈ xs, WT P n e c) → YA i (.lst xs) := by
  have hv := val_wt hb hs
  intro e i k xs he hr hl hc
  have := reach_le
  unfold spV at he
  split at he
  · rename_i e1; subst e1
    simp only [Option.some.injEq] at he; subst he
    obtain ⟨l, rfl, h3⟩ := choose_map (f := Val.enc) (Q := Val.Ok) xs fun c hcm => hv k c (hc c hcm)
    rw [hb] at hr
    exact ⟨l, rfl, by unfold B47; simp at hr; omega, h3⟩
  · cases he
end Go.GB.C11


/-
  F25J: shapes of graphs and supergraphs, as laws are handed them.
-/
namespace Go.GB.C23
open Go.GB Go.GB.C11
set_option linter.unusedSimpArgs false
set_option linter.unusedVariables false

def graphSh : List Sh := [.str, .lst 144 defSh]
theorem graph_sh {c : List T} (h : Sh.oks YA graphSh c) : ∃ g : Graph, c = g.enc ∧ (DocOk g.doc ∧ g.name.length ≤ 140737488355328) := by
  have := reach_le
  obtain ⟨x, c, rfl, ⟨n, rfl, hn⟩, g1⟩ := Sh.oks_cons h
  obtain ⟨l, c', rfl, h1, h2⟩ := doc_sh (r := []) g1
  obtain rfl := Sh.oks_nil h2
  exact ⟨⟨n, l⟩, rfl, h1, by show n.length ≤ _; omega⟩
theorem graphs_sh0 {c : List T} (h : Sh.oks YA [.lst 40 graphSh] c) : ∃ l : List Graph, c = [.lst (l.map Graph.enc)] ∧ l.length ≤ 140737488355328 ∧ ∀ g, g ∈ l → DocOk g.doc ∧ g.name.length ≤ 140737488355328 := by
  have := reach_le
  obtain ⟨x, c, rfl, hx, g⟩ := Sh.oks_cons h
  obtain rfl := Sh.oks_nil g
  obtain ⟨l, rfl, h1, _, h2⟩ := list_of (fun c hc => graph_sh hc) hx
  exact ⟨l, rfl, by omega, h2⟩
end Go.GB.C23


/-
  GbZH: a law's statement with the bound on its arguments' sizes.
-/
namespace Go.GB
open Go.RowKit Go.WideShapes Go.ChangeShapes
theorem handed {H : Type} {enc : TypeId × Value → H} {a : Assume} {C : Checked} {os : Os} {f : FuncId} {fn : Func} {s : ChangeSpec} {conds : List PathCond} {apart fresh handsOn again : Bool}
    (own : ownKnob C.prog.godebug = none) (started : os.Started) (noInit : C.prog.inits.idxOf? f = none) (hfn : C.prog.funcs[f]? = some fn)
    (witness : ∃ (w : World) (tape : Tape) (i : Go.Input), w.os = os ∧ (w.forCall tape i).Shaped C.prog ∧ i.vars = [] ∧ Go.Input.okWide C.prog (w.forCall tape i) .any w.heap.size f i ∧
      s.pre6 enc C.prog fn conds apart (w.forCall tape i).memory i.args ∧ a.holds C.prog (lone (Frame.enter C.prog f i.args .normal) [] (w.forCall tape i)))
    (contract : ∀ (W : World) (base : Nat) (args : Array Value) (ds gs : List (DataW H)) (before : List MemPlace),
      (∀ (j : Nat) t v, fn.params[j]? = some t → args[j]? = some v → Value.okWide C.prog W .any base t v) →
      DataW.Whole enc C.prog fn.params.toList s.vars apart W args.toList ds gs before →
      (DataW.weightsEach C.prog (fn.params.toList ++ s.plain.varTypes C.prog) (ds ++ gs)).all (· ≤ reachBytes) = true →
      Calls C.prog f args W fun e W' => ∃ v, e = .returned v ∧ s.post enc C.prog fn apart fresh handsOn again W args v W') :
    ReturnsInHanded a C os f .any (s.pre6 enc C.prog fn conds apart) (s.post enc C.prog fn apart fresh handsOn again) := by
  have e : (fun (w : World) (args : Array Value) => (s.pre enc C.prog fn conds apart w args ∧ True) ∧ sizedMet enc C.prog fn (OpenSpec.ofChange s) apart w args) = s.pre6 enc C.prog fn conds apart := by
    funext w args; simp only [and_true]; rfl
  rw [← e]
  obtain ⟨w, tape, i, h1, h2, h3, h4, h5, h6⟩ := witness
  exact returnsInHanded_of_change_and (X := fun _ _ => True) (fun _ _ _ _ _ => trivial) own started noInit hfn ⟨w, tape, i, h1, h2, h3, h4, ⟨⟨h5.1, trivial⟩, h5.2⟩, h6⟩ (fun W base args ds gs before a1 a2 _ a4 _ _ => contract W base args ds gs before a1 a2 a4)
end Go.GB

