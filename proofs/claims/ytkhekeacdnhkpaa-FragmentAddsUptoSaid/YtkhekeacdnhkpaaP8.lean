/-
  YtkhekeacdnhkpaaP8: lemmas of this proof (part 8). No conditions.
-/
import Derived.Test.YtkhekeacdnhkpaaP6
import Derived.Test.YtkhekeacdnhkpaaP7
import Derived.Test.YtkhekeacdnhkpaaP5
import Derived.Handed

/-
  D11X: plain law of AbstractFields.
-/
namespace Go.GB.C11
open Go.GB
set_option linter.unusedSimpArgs false
set_option linter.unusedVariables false
set_option maxRecDepth 100000
set_option maxHeartbeats 2000000

/- sizes -/
def wFd : List Field → Nat
  | [] => 0
  | f :: r => f.args.length + f.dirs.length + wFd r
def wD (d : Def) : Nat := 1 + d.fields.length + d.members.length + d.inputs.length + d.dirs.length + d.implements.length + wFd d.fields
def wDs : List Def → Nat
  | [] => 0
  | d :: r => wD d + wDs r
theorem bulkLL_len {α : Type} (f : α → List T) (hf : ∀ x, 1 ≤ bulkL (f x)) : ∀ l : List α, l.length ≤ bulkLL (l.map f)
  | [] => by simp
  | x :: r => by
    have := hf x; have := bulkLL_len f hf r
    simp only [List.map_cons, bulkLL, List.length_cons]; omega
theorem bulk_pos (x : T) : 1 ≤ x.bulk := by cases x <;> simp [T.bulk]
theorem bulkL_cons (x : T) (r : List T) : 1 ≤ bulkL (x :: r) := by have := bulk_pos x; simp only [bulkL]; omega
theorem wF_bulk : ∀ l : List Field, l.length + wFd l ≤ bulkLL (l.map Field.enc)
  | [] => by simp [wFd]
  | f :: r => by
    have := wF_bulk r
    have h1 := bulkLL_len Input.enc (fun x => bulkL_cons _ _) f.args
    have h2 := bulkLL_len Dir.enc (fun x => bulkL_cons _ _) f.dirs
    simp only [List.map_cons, bulkLL, List.length_cons, wFd, Field.enc, bulkL, T.bulk]; omega
theorem wD_bulk (d : Def) : wD d ≤ bulkL d.enc := by
  have h1 := wF_bulk d.fields
  have h2 := bulkLL_len Member.enc (fun x => bulkL_cons _ _) d.members
  have h3 := bulkLL_len Input.enc (fun x => bulkL_cons _ _) d.inputs
  have h4 := bulkLL_len Dir.enc (fun x => bulkL_cons _ _) d.dirs
  have h5 := bulkLL_len sE (fun x => bulkL_cons _ _) d.implements
  simp only [wD, Def.enc, bulkL, T.bulk]; omega
theorem wDs_bulk : ∀ ds : List Def, wDs ds ≤ bulkLL (ds.map Def.enc)
  | [] => by simp [wDs]
  | d :: r => by have := wD_bulk d; have := wDs_bulk r; simp only [wDs, List.map_cons, bulkLL]; omega
theorem wrapS (x : Int) (h1 : 0 ≤ x) (h2 : x ≤ 9000000000000) : IntKind.i64.wrap x = x := wrap64 (by omega) (by omega)
theorem lgFld_eq : ∀ (l : List Field) (n : Nat), n + wFd l ≤ 1000000000 → l.foldl lgFld (n : Int) = ((n + wFd l : Nat) : Int)
  | [], n, _ => by simp [wFd]
  | f :: r, n, h => by
    simp only [wFd] at h
    have e : lgFld (n : Int) f = ((n + (f.args.length + f.dirs.length) : Nat) : Int) := by
      unfold lgFld
      simp (disch := omega) only [wrapS]; omega
    rw [List.foldl_cons, e, lgFld_eq r _ (by omega)]
    simp only [wFd]; congr 1; omega
theorem lgDef_eq (d : Def) (n : Nat) (h : n + wD d ≤ 1000000000) : lgDef (n : Int) d = ((n + wD d : Nat) : Int) := by
  simp only [wD] at h
  unfold lgDef
  simp (disch := omega) only [wrapS]
  rw [show ((n : Int) + (1 + (d.fields.length : Nat) + (d.members.length : Nat) + (d.inputs.length : Nat) + (d.dirs.length : Nat) + (d.implements.length : Nat))) = ((n + (1 + d.fields.length + d.members.length + d.inputs.length + d.dirs.length + d.implements.length) : Nat) : Int) by omega]
  rw [lgFld_eq _ _ (by omega)]
  simp only [wD]; congr 1; omega
theorem lgDs_eq : ∀ (l : List Def) (n : Nat), n + wDs l ≤ 1000000000 → l.foldl lgDef (n : Int) = ((n + wDs l : Nat) : Int)
  | [], n, _ => by simp [wDs]
  | d :: r, n, h => by
    simp only [wDs] at h
    rw [List.foldl_cons, lgDef_eq d n (by omega), lgDs_eq r _ (by omega)]
    simp only [wDs]; congr 1; omega
structure Small (ds : List Def) : Prop where
  l : ds.length ≤ 70
  w : wDs ds ≤ 1000
theorem small_of {ds : List Def} (hb : bulkLL (ds.map Def.enc) ≤ 1048576) (h : largeF ds = false) : Small ds := by
  have hw := wDs_bulk ds
  unfold largeF at h
  have e : ds.foldl lgDef 0 = ((wDs ds : Nat) : Int) := by
    have := lgDs_eq ds 0 (by omega)
    simpa using this
  rw [e] at h
  simp only [Bool.or_eq_false_iff, decide_eq_false_iff_not] at h
  exact ⟨by omega, by omega⟩
theorem wDs_mem : ∀ {ds : List Def} {d : Def}, d ∈ ds → wD d ≤ wDs ds
  | [], d, h => by cases h
  | x :: r, d, h => by
    simp only [wDs]
    rcases List.mem_cons.1 h with rfl | h
    · omega
    · have := wDs_mem h; omega
theorem wF_mem : ∀ {l : List Field} {f : Field}, f ∈ l → f.args.length ≤ wFd l
  | [], d, h => by cases h
  | x :: r, d, h => by
    simp only [wFd]
    rcases List.mem_cons.1 h with rfl | h
    · omega
    · have := wF_mem h; omega
theorem Small.d {ds : List Def} (h : Small ds) {d : Def} (hd : d ∈ ds) : wD d ≤ 1000 := Nat.le_trans (wDs_mem hd) h.w

/- how many violations -/
theorem inF_len (ds : List Def) (a b : Str) : ∀ (l p : List Input), (inF ds a b p l).length ≤ 3 * l.length
  | [], p => by simp [inF]
  | x :: r, p => by
    have h1 := inF_len ds a b r (p ++ [x])
    have h2 := namesF_len x.name false (findInput x.name p).isSome (a ++ x.name ++ b)
    simp only [inF, inOne, List.length_append, List.length_cons]
    split
    · simp only [List.length_cons, List.length_nil]; omega
    · split
      · simp only [List.length_cons, List.length_nil]; omega
      · simp only [List.length_nil]; omega
theorem fldL_len (ds : List Def) (n : Str) : ∀ (l p : List Field), (fldL ds n p l).length ≤ 3 * (l.length + wFd l)
  | [], p => by simp [fldL]
  | x :: r, p => by
    have h1 := fldL_len ds n r (p ++ [x])
    have h2 := namesF_len x.name false (findField x.name p).isSome (n ++ [46] ++ x.name)
    have h3 := inF_len ds (n ++ [46] ++ x.name ++ [40]) [41] x.args []
    simp only [fldL, fldOne, List.length_append, List.length_cons, wFd]
    split
    · simp only [List.length_cons, List.length_nil]; omega
    · split
      · simp only [List.length_cons, List.length_nil]; omega
      · simp only [List.length_nil]; omega
theorem memL_len (n : Str) : ∀ (l p : List Member), (memL n p l).length ≤ 2 * l.length
  | [], p => by simp [memL]
  | x :: r, p => by
    have h1 := memL_len n r (p ++ [x])
    have h2 := namesF_len x.name (memBad x.name) (memF p x.name) (n ++ [46] ++ x.name)
    simp only [memL, List.length_append, List.length_cons]; omega
theorem wholeF_len (ds : List Def) (i : Nat) (d : Def) : (wholeF ds i d).length ≤ 5 := by
  have := namesF_len d.name false (twiceF ds i d.name) d.name
  unfold wholeF
  simp only [List.length_append]
  split <;> split <;> split <;> simp <;> omega
theorem chkL_len (ds : List Def) : ∀ (l : List Def) (i : Nat), (chkL ds i l).length ≤ 5 * l.length + 3 * wDs l
  | [], i => by simp [chkL]
  | d :: r, i => by
    have h1 := chkL_len ds r (i + 1)
    have h2 := wholeF_len ds i d
    have h3 : (chkK ds d).length ≤ 3 * wD d := by
      have a1 := fldL_len ds d.name d.fields []
      have a2 := memL_len d.name d.members []
      have a3 := inF_len ds (d.name ++ [46]) [] d.inputs []
      unfold chkK wD
      split
      · omega
      · split
        · omega
        · split
          · omega
          · split
            · omega
            · simp
    simp only [chkL, List.length_append, List.length_cons, wDs]; omega
theorem check_len {ds : List Def} (h : Small ds) (q : Bool) : (checkF ds q).length ≤ 4398046511104 := by
  have h1 := chkL_len ds ds 0
  have h2 := h.l
  have h3 := h.w
  unfold checkF chkQ
  rw [List.length_append]
  split <;> simp <;> omega
theorem argsA_len (y : Field) (a : Str) : ∀ l : List Input, (argsA y a l).length ≤ l.length
  | [] => by simp [argsA]
  | x :: r => by
    have := argsA_len y a r
    simp only [argsA]; split <;> simp <;> omega
theorem argsB_len (y : Field) (a : Str) : ∀ l : List Input, (argsB y a l).length ≤ l.length
  | [] => by simp [argsB]
  | x :: r => by
    have := argsB_len y a r
    simp only [argsB]; split <;> simp <;> omega
theorem faceF_len (ds : List Def) (t : Def) (ht : ∀ y, y ∈ t.fields → y.args.length ≤ 1000) : ∀ l : List Field, (∀ x, x ∈ l → x.args.length ≤ 1000) → (faceF ds t l).length ≤ 2001 * l.length
  | [], _ => by simp [faceF]
  | x :: r, h => by
    have h1 := faceF_len ds t ht r (fun y hy => h y (List.mem_cons_of_mem _ hy))
    have h2 := h x (by simp)
    have h3 : (fldF ds t x).length ≤ 2001 := by
      unfold fldF
      cases hf : findField x.name t.fields with
      | none => simp
      | some y =>
        have a1 := argsA_len y (atF t x) x.args
        have a2 := argsB_len x (atF t x) y.args
        have a3 := ht y (findField_mem hf)
        simp only [List.length_append]
        split <;> simp <;> omega
    simp only [faceF, List.length_append, List.length_cons]; omega
theorem wD_fields {d : Def} (h : wD d ≤ 1000) : d.fields.length ≤ 1000 ∧ ∀ y, y ∈ d.fields → y.args.length ≤ 1000 := by
  unfold wD at h
  exact ⟨by omega, fun y hy => by have := wF_mem hy; omega⟩
theorem find_small {ds : List Def} (h : Small ds) (n : Str) : wD ((findDef n ds).getD Def.zero) ≤ 1000 := by
  cases hf : findDef n ds with
  | none => simp [wD, Def.zero, wFd]
  | some o => exact h.d (findDef_mem hf)
theorem objL_len {ds : List Def} (h : Small ds) {t : Def} (ht : t ∈ ds) : ∀ (l p : List Str), (objL ds t p l).length ≤ 2001001 * l.length
  | [], p => by simp [objL]
  | n :: r, p => by
    have h1 := objL_len h ht r (p ++ [n])
    have h2 := wD_fields (find_small h n)
    have h3 := faceF_len ds t (wD_fields (h.d ht)).2 ((findDef n ds).getD Def.zero).fields h2.2
    simp only [objL, List.length_append, List.length_cons]
    split
    · omega
    · simp only [List.length_cons, List.length_nil]; omega
theorem unL_len (ds : List Def) (t : Def) : ∀ (l p : List Member), (unL ds t p l).length ≤ l.length
  | [], p => by simp [unL]
  | m :: r, p => by
    have h1 := unL_len ds t r (p ++ [m])
    simp only [unL, List.length_append, List.length_cons]
    split <;> simp <;> omega
theorem facesL_len {ds : List Def} (h : Small ds) : ∀ l : List Def, (∀ d, d ∈ l → d ∈ ds) → (facesL ds l).length ≤ 2001001000 * l.length
  | [], _ => by simp [facesL]
  | t :: r, hl => by
    have h1 := facesL_len h r (fun d hd => hl d (List.mem_cons_of_mem _ hd))
    have ht := hl t (by simp)
    have h2 := objL_len h ht t.implements []
    have h3 := unL_len ds t t.members []
    have h4 := h.d ht
    unfold wD at h4
    simp only [facesL, List.length_append, List.length_cons, objF]
    split
    · omega
    · split
      · omega
      · simp only [List.length_nil]; omega
theorem faces_len {ds : List Def} (h : Small ds) : (facesF ds).length ≤ 4398046511104 := by
  have h1 := facesL_len h ds (fun _ hd => hd)
  have h2 := h.l
  unfold facesF; omega

/- what no violations mean -/
end Go.GB.C11


/-
  D11Y: chapter 11's law: Fields.
-/
namespace Go.GB.C11
open Go.GB
set_option linter.unusedSimpArgs false
set_option linter.unusedVariables false
set_option maxRecDepth 100000
set_option maxHeartbeats 2000000
variable {P : Program}

theorem small_in {ds : List Def} (hS : Small ds) : ∀ o, o ∈ ds → o.inputs.length ≤ 2199023255552 := by
  intro o ho
  have := hS.d ho
  unfold wD at this; omega
end Go.GB.C11


/-
  E13N: laws of chapter 13: fragments that are reached, violations.
-/
namespace Go.GB.C11
open Go.GB
set_option linter.unusedSimpArgs false
set_option linter.unusedVariables false
set_option maxRecDepth 100000
set_option maxHeartbeats 4000000
variable {P : Program}

/-- what the laws on violations are handed -/
structure Sm13 (ds : List Def) (q : Query) : Prop where
  d : bulkLL (ds.map Def.enc) ≤ 1048576
  w : opsW q.ops + frW q.frags ≤ 1048576
def fits13F (ds : List Def) (q : Query) : Bool := (((!largeF ds && !largeQ q) && rightQ q) && ((checkF ds false).length : Int) == 0) && ((facesF ds).length : Int) == 0
theorem fits13_ok (H : Pr13 P) (ds : List Def) (hD : DocOk ds) (q : Query) (hq : q.Ok) (hb : Sm13 ds q) : FnOk P 39 [docV ds, q.v] ⟨[], 0⟩ { v := .t (.bool (fits13F ds q)) } := by
  have hS : largeF ds = false → Small ds := fun h => small_of hb.d h
  refine FnOk.run H.i39 H.mixed rfl rfl ?_
  refine fR rfl ?_
  refine Mid.call (large_ok H.toPr ds hD) rfl rfl rfl rfl ?_
  refine fM rfl ?_
  refine caG rfl rfl (fun hg => ⟨_, rfl, largeQ_ok H q hq, rfl⟩) rfl rfl ?_
  refine fM rfl ?_
  refine caG rfl rfl (fun hg => ⟨_, rfl, right08_ok H q hq, rfl⟩) rfl rfl ?_
  refine fM rfl ?_
  refine caG rfl rfl (fun hg => ⟨_, rfl, check_ok H.toPr ds hD (small_in (hS (by simp at hg; exact hg.1.1))) false (check_len (hS (by simp at hg; exact hg.1.1)) false), rfl⟩) rfl rfl ?_
  refine lMG rfl rfl rfl rfl ?_
  refine fM rfl ?_
  refine caG rfl rfl (fun hg => ⟨_, rfl, rFaces_ok H ds hD (faces_len (hS (by simp at hg; exact hg.1.1.1))), rfl⟩) rfl rfl ?_
  refine lMG rfl rfl rfl rfl ?_
  refine fM rfl ?_
  refine Run.fin rfl (EndOk.go ?_); exact .t rfl
theorem fits_nil {ds : List Def} {q : Query} (h : fits13F ds q = true) : checkF ds false = [] := by
  unfold fits13F at h
  simp only [Bool.and_eq_true, beq_iff_eq] at h
  have := h.1.2
  cases hc : checkF ds false with
  | nil => rfl
  | cons a r => rw [hc] at this; simp at this; omega
def oldU (q : Query) (i : Nat) (f : Frag) : Bool := (q.ops.take i).any fun o => decide (f.name ∈ (wF q o.sels).1)
structure UOk (q : Query) (U : List Bool) (v : Nat → Frag → Bool) : Prop where
  len : U.length = q.frags.length
  at_ : ∀ m f, q.frags[m]? = some f → U[m]? = some (v m f)
theorem UOk.start (q : Query) : UOk q ((List.replicate q.frags.length [false]).flatten) (fun _ f => oldU q 0 f) := by
  rw [List.flatten_replicate_singleton]
  refine ⟨by simp, fun m f hm => ?_⟩
  have := (List.getElem?_eq_some_iff.1 hm).1
  rw [List.getElem?_replicate, if_pos this]
  simp [oldU]
end Go.GB.C11


/-
  E13O: chapter 13's law: one more fragment.
-/
namespace Go.GB.C11
open Go.GB
set_option linter.unusedSimpArgs false
set_option linter.unusedVariables false
set_option maxRecDepth 100000
set_option maxHeartbeats 4000000
variable {P : Program}

theorem zzF_ok {on : Str} (h : on.length ≤ 140737488355328) : (zzF on).Ok :=
  ⟨by simp [zzF, zzN], h, by simp [zzF], by intro x hx; simp [zzF] at hx; subst hx; exact .mk (by decide) (by decide) (by decide) (by decide) (by decide) (by decide) (by simp) (by simp) (by simp)⟩
theorem more_ok {q : Query} (hq : q.Ok) {on : Str} (h : on.length ≤ 140737488355328) (hl : q.frags.length ≤ 10) : (moreQ q (zzF on)).Ok := by
  refine ⟨hq.ol, hq.o, by simp [moreQ]; omega, ?_⟩
  intro x hx
  simp only [moreQ, List.mem_append, List.mem_singleton] at hx
  rcases hx with hx | rfl
  · exact hq.f x hx
  · exact zzF_ok h
theorem frW_append (a b : List Frag) : frW (a ++ b) = frW a + frW b := by simp [frW]
theorem more_w (q : Query) (on : Str) : opsW (moreQ q (zzF on)).ops + frW (moreQ q (zzF on)).frags = opsW q.ops + frW q.frags + frW [zzF on] := by
  simp only [moreQ, frW_append]; omega
theorem zz_w (on : Str) : frW [zzF on] = 8 := by
  simp [frW, zzF, zzN, Sel.ws, Sel.w]
theorem fragmentAdds_ok (H : Pr13 P) (ds : List Def) (hD : DocOk ds) (q : Query) (hq : q.Ok) (on : Str) (hon : on.length ≤ 140737488355328) (hb : Sm13 ds q) : FnOk P 11 [docV ds, q.v, .t (.str on)] ⟨[], 0⟩ { v := .t (.bool true) } := by
  have hw := hb.w
  have hfl := hq.fl
  have hol := hq.ol
  refine FnOk.run H.i11 H.mixed rfl rfl ?_
  refine fR rfl ?_
  refine Mid.call (fits13_ok H ds hD q hq hb) rfl rfl rfl rfl ?_
  refine fM rfl ?_
  refine caG rfl rfl (fun hg => ⟨_, rfl, rComposite_ok H ds hD on, rfl⟩) rfl rfl ?_
  refine fM rfl ?_
  refine lMG rfl rfl rfl rfl ?_
  refine fM rfl ?_
  refine Run.cond rfl rfl (fun hg => ?_) (fun hg => ?_)
  · refine fR rfl ?_
    refine Mid.call (example13_ok H) rfl rfl rfl rfl ?_
    refine fM rfl ?_
    refine Run.fin rfl (EndOk.go ?_); exact .t rfl
  · simp only [Bool.or_eq_false_iff, Bool.not_eq_false', decide_eq_false_iff_not] at hg
    obtain ⟨⟨hfit, hco⟩, h10⟩ := hg
    have h10' : q.frags.length ≤ 10 := by omega
    have hE := comp_nil (fits_nil hfit)
    refine fR rfl ?_
    refine Mid.call (rqfind_ok H q hq zzN) rfl rfl rfl rfl ?_
    refine fM rfl ?_
    cases hz : findFrag zzN q.frags with
    | some z =>
      refine Run.condT rfl rfl rfl ?_
      refine fR rfl ?_
      refine Mid.call (example13_ok H) rfl rfl rfl rfl ?_
      refine fM rfl ?_
      refine Run.fin rfl (EndOk.go ?_); exact .t rfl
    | none =>
      refine Run.condF rfl rfl rfl ?_
      refine fR rfl ?_
      refine rList q.ops (fun i (_ : Unit) => { env := [(2, .t (.str on)), (3, .ptr 0 0), (4, .ptr 1 0), (9, .t (.int .i64 i))], s := ⟨[(0, .cells [.t (.lst (ds.map Def.enc))]), (1, .cells [.t (.lst (q.ops.map Op.enc)), .t (.lst (q.frags.map Frag.enc))])], 2⟩ }) (fun r i _ => ∀ o, o ∈ q.ops → o ∈ r ∨ fouS q o.sels = true) 2 () rfl (fun o h => .inl h) rfl rfl rfl ?_ ?_
      · intro _ hO
        have hO' : ∀ o, o ∈ q.ops → fouS q o.sels = true := fun o ho => by
          rcases hO o ho with h | h
          · cases h
          · exact h
        refine fR rfl ?_
        refine lM rfl rfl rfl ?_
        refine fM rfl ?_
        refine Run.condF rfl rfl (by simp) ?_
        refine fR rfl ?_
        refine rList q.frags (fun i (_ : Unit) => { env := [(2, .t (.str on)), (3, .ptr 0 0), (4, .ptr 1 0), (12, .t (.int .i64 i))], s := ⟨[(0, .cells [.t (.lst (ds.map Def.enc))]), (1, .cells [.t (.lst (q.ops.map Op.enc)), .t (.lst (q.frags.map Frag.enc))])], 2⟩ }) (fun r i _ => ∀ o, o ∈ q.frags → o ∈ r ∨ fouS q o.sels = true) 2 () rfl (fun o h => .inl h) rfl rfl rfl ?_ ?_
        · intro _ hF
          have hF' : ∀ o, o ∈ q.frags → fouS q o.sels = true := fun o ho => by
            rcases hF o ho with h | h
            · cases h
            · exact h
          have hm := chk_more hF' hO' hco hz
          have hmo := more_ok hq hon h10'
          have hmw := more_w q on
          rw [zz_w] at hmw
          have hc := check13_ok H ds hD q hq (by omega)
          have hc2 := check13_ok H ds hD (moreQ q (zzF on)) hmo (by omega)
          rw [hm] at hc2
          have hcl := chkF_len ds q
          have hs := faults_ok H.toPr (chkF ds q) (chkF ds q) (by omega) (by omega)
          rw [decide_eq_true rfl] at hs
          generalize chkF ds q = L at hc hc2 hcl hs
          have hs2 : FnOk P 40 [.t (.lst (L.map Fault.enc)), .t (.lst (((L ++ [(⟨26, zzN⟩ : Fault)]).take L.length).map Fault.enc))] ⟨[], 0⟩ { v := .t (.bool true) } := by
            have e : ((L ++ [(⟨26, zzN⟩ : Fault)]).take L.length).map Fault.enc = L.map Fault.enc := by simp
            rw [e]; exact hs
          refine fR rfl ?_
          refine lM rfl rfl rfl ?_
          refine fM rfl ?_
          refine Run.condF rfl rfl (by simp) ?_
          refine fR rfl ?_
          refine apN Frag.enc q.frags rfl rfl rfl ?_ (h1 := by first | omega | (simp; omega) | (simp; done)) (h2 := by first | omega | (simp; omega) | (simp; done))
          refine fM rfl ?_
          refine apM Frag.enc q.frags [zzF on] rfl rfl rfl rfl rfl ?_ (h1 := by simp; omega) (h2 := by simp; omega)
          refine Mid.fast (f := 2) rfl trivial ?_
          refine Mid.done0 rfl ?_
          refine rWeakC 3 rfl (st' := { env := [(3, .ptr 0 0), (4, .ptr 1 0), (15, .ptr 2 0)], s := ⟨[(0, .cells [.t (.lst (ds.map Def.enc))]), (1, .cells [.t (.lst (q.ops.map Op.enc)), .t (.lst (q.frags.map Frag.enc))]), (2, .cells [.t (.lst (q.ops.map Op.enc)), .t (.lst ((q.frags ++ [zzF on]).map Frag.enc))])], 3⟩ }) ?_ rfl rfl rfl
          refine fR rfl ?_
          refine Mid.call (hc) rfl rfl rfl rfl ?_
          refine fM rfl ?_
          refine Mid.call (hc2) rfl rfl rfl rfl ?_
          refine fM rfl ?_
          refine lM rfl rfl rfl ?_
          refine fM rfl ?_
          refine lM rfl rfl rfl ?_
          refine aL rfl rfl rfl rfl rfl ?_
          refine fM rfl ?_
          refine lMG rfl rfl rfl rfl ?_
          have hel : (L ++ [(⟨26, zzN⟩ : Fault)])[L.length]? = some ⟨26, zzN⟩ := by rw [List.getElem?_append_right (Nat.le_refl _), Nat.sub_self]; rfl
          have hll : (L ++ [(⟨26, zzN⟩ : Fault)]).length = L.length + 1 := by simp
          generalize L ++ [(⟨26, zzN⟩ : Fault)] = L2 at hel hs2 hll
          refine elG rfl rfl rfl rfl hel rfl rfl ?_
          refine fM rfl ?_
          refine gr rfl ?_
          refine fM rfl ?_
          refine Run.condF rfl rfl (by simp [hll] <;> rfl) ?_
          refine fR rfl ?_
          refine lM rfl rfl rfl ?_
          refine lTo rfl rfl rfl rfl ?_
          refine Mid.call (hs2) rfl rfl rfl rfl ?_
          refine fM rfl ?_
          refine caG rfl rfl (fun hg => ⟨_, rfl, example13_ok H, rfl⟩) rfl rfl ?_
          refine fM rfl ?_
          refine Run.fin rfl (EndOk.go ?_); exact .t rfl
        · intro i x r _ h1 hi hd hinv ih
          have hx := hq.f x (List.mem_of_getElem? h1)
          refine fR rfl ?_
          refine lM rfl rfl rfl ?_
          refine fM rfl ?_
          refine Run.condT rfl rfl (by simp; omega) ?_
          refine fR rfl ?_
          refine Mid.elemMap rfl rfl rfl h1 rfl rfl ?_
          refine fM rfl ?_
          refine Mid.call (rReach_ok H q hq x.sels hx.s) rfl rfl rfl rfl ?_
          refine fM rfl ?_
          cases hr : reachB q x.sels with
          | true =>
            refine Run.condF rfl rfl rfl ?_
            refine fR rfl ?_
            refine aL rfl rfl rfl rfl rfl ?_
            refine fM rfl ?_
            exact rWeak 2 rfl (ih () (fun o ho => by
              rcases hinv o ho with h | h
              · rcases List.mem_cons.1 h with rfl | h
                · exact .inr (reach_fou hr)
                · exact .inl h
              · exact .inr h)) rfl rfl rfl
          | false =>
            refine Run.condT rfl rfl rfl ?_
            refine fR rfl ?_
            refine Mid.call (example13_ok H) rfl rfl rfl rfl ?_
            refine fM rfl ?_
            refine Run.fin rfl (EndOk.go ?_); exact .t rfl
      · intro i x r _ h1 hi hd hinv ih
        have hx := hq.o x (List.mem_of_getElem? h1)
        refine fR rfl ?_
        refine lM rfl rfl rfl ?_
        refine fM rfl ?_
        refine Run.condT rfl rfl (by simp; omega) ?_
        refine fR rfl ?_
        refine Mid.elemMap rfl rfl rfl h1 rfl rfl ?_
        refine fM rfl ?_
        refine Mid.call (rReach_ok H q hq x.sels hx.s) rfl rfl rfl rfl ?_
        refine fM rfl ?_
        cases hr : reachB q x.sels with
        | true =>
          refine Run.condF rfl rfl rfl ?_
          refine fR rfl ?_
          refine aL rfl rfl rfl rfl rfl ?_
          refine fM rfl ?_
          exact rWeak 2 rfl (ih () (fun o ho => by
            rcases hinv o ho with h | h
            · rcases List.mem_cons.1 h with rfl | h
              · exact .inr (reach_fou hr)
              · exact .inl h
            · exact .inr h)) rfl rfl rfl
        | false =>
          refine Run.condT rfl rfl rfl ?_
          refine fR rfl ?_
          refine Mid.call (example13_ok H) rfl rfl rfl rfl ?_
          refine fM rfl ?_
          refine Run.fin rfl (EndOk.go ?_); exact .t rfl
end Go.GB.C11


/-
  GbSh: what a law is handed, of package api's types.
-/
namespace Go.GB
open Go.RowKit
set_option linter.unusedSimpArgs false
set_option linter.unusedVariables false

def valSh : List Sh := [.int .i64, .int .i64, .str, .num 0, .lst 16 [.str]]
def argSh : List Sh := .str :: valSh
def dirSh : List Sh := [.str, .lst 96 argSh]
def refSh : List Sh := [.str, .lst 8 [.int .i64]]
def inputSh : List Sh := [.str] ++ refSh ++ [.bool] ++ valSh ++ [.lst 40 dirSh]
def fieldSh : List Sh := [.str, .lst 168 inputSh] ++ refSh ++ [.lst 40 dirSh]
def memberSh : List Sh := [.str, .lst 40 dirSh]
def defSh : List Sh := [.int .i64, .str, .lst 16 [.str], .lst 40 dirSh, .lst 104 fieldSh, .lst 40 memberSh, .lst 168 inputSh]
def docSh : List Sh := [.lst 144 defSh]
/-- lists of types that contain themselves -/
def YA : Nat → T → Prop
  | 0, x => ∃ l : List Val, x = .lst (l.map Val.enc) ∧ l.length * 80 ≤ B47 ∧ ∀ v ∈ l, v.Ok
  | _, x => ∃ l : List Pick, x = .lst (l.map Pick.enc) ∧ l.length * 160 ≤ B47 ∧ ∀ p ∈ l, p.Ok ∧ p.on.length ≤ maxLen

theorem reach_le : reachBytes ≤ 140737488355328 := by decide
theorem strs_of {Y : Nat → T → Prop} {x : T} {b : Nat} (h : (Sh.lst b [.str]).ok Y x) : ∃ l : List Str, x = .lst (l.map sE) ∧ l.length * b ≤ reachBytes ∧ ∀ s ∈ l, s.length ≤ reachBytes := by
  obtain ⟨xs, rfl, h1, _, h2⟩ := h
  obtain ⟨l, rfl, h3⟩ := choose_map (f := sE) (Q := fun s => s.length ≤ reachBytes) xs fun c hc => by
    obtain ⟨x, r, rfl, ⟨s, rfl, hs⟩, h⟩ := Sh.oks_cons (h2 c hc)
    obtain rfl := Sh.oks_nil h
    exact ⟨s, rfl, hs⟩
  exact ⟨l, rfl, by simpa using h1, h3⟩
theorem nums_of {Y : Nat → T → Prop} {x : T} {b : Nat} (h : (Sh.lst b [.int .i64]).ok Y x) : ∃ l : List Int, x = .lst (l.map nE) ∧ l.length * b ≤ reachBytes := by
  obtain ⟨xs, rfl, h1, _, h2⟩ := h
  obtain ⟨l, rfl, h3⟩ := choose_map (f := nE) (Q := fun _ => True) xs fun c hc => by
    obtain ⟨x, r, rfl, ⟨s, rfl, hs⟩, h⟩ := Sh.oks_cons (h2 c hc)
    obtain rfl := Sh.oks_nil h
    exact ⟨s, rfl, trivial⟩
  exact ⟨l, rfl, by simpa using h1⟩
theorem list_of {α : Type} {f : α → List T} {Q : α → Prop} {Y : Nat → T → Prop} {x : T} {b : Nat} {sh : List Sh} (hf : ∀ c, Sh.oks Y sh c → ∃ a, c = f a ∧ Q a) (h : (Sh.lst b sh).ok Y x) : ∃ l : List α, x = .lst (l.map f) ∧ l.length * b ≤ reachBytes ∧ l.length ≤ maxLen ∧ ∀ a ∈ l, Q a := by
  obtain ⟨xs, rfl, h1, h0, h2⟩ := h
  obtain ⟨l, rfl, h3⟩ := choose_map (f := f) (Q := Q) xs fun c hc => hf c (h2 c hc)
  exact ⟨l, rfl, by simpa using h1, by simpa using h0, h3⟩

/-- the shape of a value -/
theorem val_sh {r : List Sh} {c : List T} (h : Sh.oks YA (valSh ++ r) c) : ∃ (v : Val) (c' : List T), c = v.cs ++ c' ∧ v.Ok ∧ Sh.oks YA r c' := by
  obtain ⟨x1, c, rfl, ⟨k, rfl, _⟩, g1⟩ := Sh.oks_cons h
  obtain ⟨x2, c, rfl, ⟨i, rfl, _⟩, g2⟩ := Sh.oks_cons g1
  obtain ⟨x3, c, rfl, ⟨t, rfl, ht⟩, g3⟩ := Sh.oks_cons g2
  obtain ⟨x4, c, rfl, ⟨its, rfl, hi1, hi2⟩, g4⟩ := Sh.oks_cons g3
  obtain ⟨x5, c, rfl, hk, g5⟩ := Sh.oks_cons g4
  obtain ⟨ks, rfl, hk1, hk2⟩ := strs_of hk
  have := reach_le
  refine ⟨.mk k i t its ks, c, rfl, .mk hi1 (by unfold B47; omega) hi2 (by omega) (fun x hx => by have := hk2 x hx; omega), g5⟩
theorem val_sh0 {c : List T} (h : Sh.oks YA valSh c) : ∃ v : Val, c = v.enc ∧ v.Ok := by
  obtain ⟨v, c', rfl, h1, h2⟩ := val_sh (r := []) (by simpa using h)
  obtain rfl := Sh.oks_nil h2
  exact ⟨v, by rw [Val.enc_eq, List.append_nil], h1⟩
theorem arg_sh {c : List T} (h : Sh.oks YA argSh c) : ∃ a : Arg, c = a.enc ∧ a.Ok := by
  obtain ⟨x, c, rfl, ⟨n, rfl, _⟩, g1⟩ := Sh.oks_cons h
  obtain ⟨v, c', rfl, h1, h2⟩ := val_sh (r := []) (by simpa using g1)
  obtain rfl := Sh.oks_nil h2
  exact ⟨⟨n, v⟩, by simp [Arg.enc, Val.cs], h1⟩
theorem dir_sh {c : List T} (h : Sh.oks YA dirSh c) : ∃ a : Dir, c = a.enc ∧ a.Ok := by
  have := reach_le
  obtain ⟨x, c, rfl, ⟨n, rfl, hn⟩, g1⟩ := Sh.oks_cons h
  obtain ⟨x, c, rfl, hx, g2⟩ := Sh.oks_cons g1
  obtain rfl := Sh.oks_nil g2
  obtain ⟨l, rfl, h1, _, h2⟩ := list_of (fun c hc => arg_sh hc) hx
  exact ⟨⟨n, l⟩, rfl, ⟨by show l.length ≤ _; omega, h2, by show n.length ≤ _; omega⟩⟩
theorem dirs_sh {b : Nat} (hb : 0 < b) {x : T} (h : (Sh.lst b dirSh).ok YA x) : ∃ l : List Dir, x = .lst (l.map Dir.enc) ∧ l.length ≤ 140737488355328 ∧ ∀ d ∈ l, d.Ok := by
  have := reach_le
  obtain ⟨l, rfl, h1, _, h2⟩ := list_of (fun c hc => dir_sh hc) h
  refine ⟨l, rfl, ?_, h2⟩
  have : l.length ≤ l.length * b := Nat.le_mul_of_pos_right _ hb
  omega
theorem ref_sh {r : List Sh} {c : List T} (h : Sh.oks YA (refSh ++ r) c) : ∃ (v : Ref) (c' : List T), c = .str v.name :: .lst (v.wraps.map nE) :: c' ∧ v.Ok ∧ Sh.oks YA r c' := by
  have := reach_le
  obtain ⟨x1, c, rfl, ⟨n, rfl, hn⟩, g1⟩ := Sh.oks_cons h
  obtain ⟨x5, c, rfl, hk, g2⟩ := Sh.oks_cons g1
  obtain ⟨ks, rfl, hk1⟩ := nums_of hk
  exact ⟨⟨n, ks⟩, c, rfl, ⟨by show ks.length * 8 ≤ _; omega, by show n.length ≤ _; omega⟩, g2⟩
theorem input_sh {c : List T} (h : Sh.oks YA inputSh c) : ∃ a : Input, c = a.enc ∧ a.Ok := by
  have := reach_le
  obtain ⟨x, c, rfl, ⟨n, rfl, hn⟩, g1⟩ := Sh.oks_cons h
  obtain ⟨t, c, rfl, ht, g2⟩ := ref_sh g1
  obtain ⟨x, c, rfl, ⟨b, rfl⟩, g3⟩ := Sh.oks_cons g2
  obtain ⟨v, c, rfl, hv, g4⟩ := val_sh g3
  obtain ⟨x, c, rfl, hx, g5⟩ := Sh.oks_cons g4
  obtain rfl := Sh.oks_nil g5
  obtain ⟨l, rfl, h1, h2⟩ := dirs_sh (by decide) hx
  exact ⟨⟨n, t, b, v, l⟩, by simp [Input.enc, Val.cs], ⟨ht, hv, h1, h2, by show n.length ≤ _; omega⟩⟩
theorem inputs_sh {x : T} (h : (Sh.lst 168 inputSh).ok YA x) : ∃ l : List Input, x = .lst (l.map Input.enc) ∧ l.length ≤ 140737488355328 ∧ ∀ d ∈ l, d.Ok := by
  have := reach_le
  obtain ⟨l, rfl, h1, _, h2⟩ := list_of (fun c hc => input_sh hc) h
  exact ⟨l, rfl, by omega, h2⟩
theorem field_sh {c : List T} (h : Sh.oks YA fieldSh c) : ∃ a : Field, c = a.enc ∧ a.Ok := by
  have := reach_le
  obtain ⟨x, c, rfl, ⟨n, rfl, hn⟩, g1⟩ := Sh.oks_cons h
  obtain ⟨x, c, rfl, hx, g2⟩ := Sh.oks_cons g1
  obtain ⟨ins, rfl, i1, i2⟩ := inputs_sh hx
  obtain ⟨t, c, rfl, ht, g3⟩ := ref_sh g2
  obtain ⟨x, c, rfl, hx, g4⟩ := Sh.oks_cons g3
  obtain rfl := Sh.oks_nil g4
  obtain ⟨l, rfl, h1, h2⟩ := dirs_sh (by decide) hx
  exact ⟨⟨n, ins, t, l⟩, rfl, ⟨i1, i2, ht, h1, h2, by show n.length ≤ _; omega⟩⟩
theorem member_sh {c : List T} (h : Sh.oks YA memberSh c) : ∃ a : Member, c = a.enc ∧ a.Ok := by
  have := reach_le
  obtain ⟨x, c, rfl, ⟨n, rfl, hn⟩, g1⟩ := Sh.oks_cons h
  obtain ⟨x, c, rfl, hx, g2⟩ := Sh.oks_cons g1
  obtain rfl := Sh.oks_nil g2
  obtain ⟨l, rfl, h1, h2⟩ := dirs_sh (by decide) hx
  exact ⟨⟨n, l⟩, rfl, ⟨h1, h2, by show n.length ≤ _; omega⟩⟩
theorem def_sh {c : List T} (h : Sh.oks YA defSh c) : ∃ a : Def, c = a.enc ∧ a.Ok := by
  have := reach_le
  obtain ⟨x, c, rfl, ⟨k, rfl, _⟩, g1⟩ := Sh.oks_cons h
  obtain ⟨x, c, rfl, ⟨n, rfl, hn⟩, g2⟩ := Sh.oks_cons g1
  obtain ⟨x, c, rfl, hx, g3⟩ := Sh.oks_cons g2
  obtain ⟨im, rfl, a1, a2⟩ := strs_of hx
  obtain ⟨x, c, rfl, hx, g4⟩ := Sh.oks_cons g3
  obtain ⟨ds, rfl, b1, b2⟩ := dirs_sh (by decide) hx
  obtain ⟨x, c, rfl, hx, g5⟩ := Sh.oks_cons g4
  obtain ⟨fs, rfl, c1, _, c2⟩ := list_of (fun c hc => field_sh hc) hx
  obtain ⟨x, c, rfl, hx, g6⟩ := Sh.oks_cons g5
  obtain ⟨ms, rfl, d1, _, d2⟩ := list_of (fun c hc => member_sh hc) hx
  obtain ⟨x, c, rfl, hx, g7⟩ := Sh.oks_cons g6
  obtain ⟨is, rfl, e1, e2⟩ := inputs_sh hx
  obtain rfl := Sh.oks_nil g7
  exact ⟨⟨k, n, im, ds, fs, ms, is⟩, rfl, ⟨by show im.length ≤ _; omega, b1, b2, by show fs.length ≤ _; omega, c2, by show ms.length ≤ _; omega, d2, e1, e2, by show n.length ≤ _; omega, fun y hy => by have := a2 y hy; omega⟩⟩
theorem doc_sh {r : List Sh} {c : List T} (h : Sh.oks YA (docSh ++ r) c) : ∃ (l : List Def) (c' : List T), c = .lst (l.map Def.enc) :: c' ∧ DocOk l ∧ Sh.oks YA r c' := by
  have := reach_le
  obtain ⟨x, c, rfl, hx, g1⟩ := Sh.oks_cons h
  obtain ⟨l, rfl, h1, _, h2⟩ := list_of (fun c hc => def_sh hc) hx
  exact ⟨l, c, rfl, ⟨by omega, h2, by omega⟩, g1⟩
/-- the types that contain themselves -/
def spV (vt : TypeId) (e : TypeId) : Option Nat := if e = vt then some 0 else none
theorem val_wt {P : Program} {vt : TypeId} (hb : P.bytesOf vt = 80) (hs : shOf P (spV vt) 6 vt = some valSh) : ∀ (n : Nat) (c : List T), WT P n vt c → ∃ v : Val, c = v.enc ∧ v.Ok := by
  intro n
  induction n using Nat.strongRecOn with
  | _ n ih =>
    intro c h
    refine val_sh0 (shOf_ok (Y := YA) n 6 vt valSh c (fun e i k xs hk he hr hl hc => ?_) hs h)
    unfold spV at he
    split at he
    · rename_i e1; subst e1
      simp only [Option.some.injEq] at he; subst he
      obtain ⟨l, rfl, h3⟩ := choose_map (f := Val.enc) (Q := Val.Ok) xs fun c hcm => ih k hk c (hc c hcm)
      have := reach_le
      rw [hb] at hr
      exact ⟨l, rfl, by unfold B47; simp at hr; omega, h3⟩
    · cases he
/-- shapes that end there -/
theorem doc_sh0 {c : List T} (h : Sh.oks YA docSh c) : ∃ l : List Def, c = [.lst (l.map Def.enc)] ∧ DocOk l := by
  obtain ⟨l, c', rfl, h1, h2⟩ := doc_sh (r := []) h
  obtain rfl := Sh.oks_nil h2
  exact ⟨l, rfl, h1⟩
end Go.GB


/-
  D11R: shapes of chapter 11's arguments.
-/
namespace Go.GB.C11
open Go.GB

end Go.GB.C11


/-
  E13P: shapes of documents, as laws are handed them.
-/
namespace Go.GB
open Go.RowKit
set_option linter.unusedSimpArgs false
set_option linter.unusedVariables false

mutual
def Sh.low : Sh → Bool
  | .num i => i == 0
  | .lst _ s => Sh.lows s
  | _ => true
def Sh.lows : List Sh → Bool
  | [] => true
  | s :: r => s.low && Sh.lows r
end
mutual
theorem Sh.ok_mono {Y Z : Nat → T → Prop} (h : ∀ x, Y 0 x → Z 0 x) : ∀ (s : Sh) (x : T), s.low = true → s.ok Y x → s.ok Z x
  | .num i, x, hl, hx => by
    simp only [Sh.low, beq_iff_eq] at hl
    subst hl
    exact h x hx
  | .lst b s, x, hl, hx => by
    obtain ⟨xs, h1, h2, h3, h4⟩ := hx
    exact ⟨xs, h1, h2, h3, fun c hc => Sh.oks_mono h s c (by simpa [Sh.low] using hl) (h4 c hc)⟩
  | .int k, x, hl, hx => hx
  | .str, x, hl, hx => hx
  | .bool, x, hl, hx => hx
  | .any, x, hl, hx => hx
theorem Sh.oks_mono {Y Z : Nat → T → Prop} (h : ∀ x, Y 0 x → Z 0 x) : ∀ (s : List Sh) (c : List T), Sh.lows s = true → Sh.oks Y s c → Sh.oks Z s c
  | [], [], _, _ => trivial
  | [], x :: c, _, hx => by simp [Sh.oks] at hx
  | s :: r, [], _, hx => by simp [Sh.oks] at hx
  | s :: r, x :: c, hl, hx => by
    simp only [Sh.lows, Bool.and_eq_true] at hl
    simp only [Sh.oks] at hx ⊢
    exact ⟨Sh.ok_mono h s x hl.1 hx.1, Sh.oks_mono h r c hl.2 hx.2⟩
end
/-- lists of values, lists of selections -/
def YS : Nat → T → Prop
  | 0, x => YA 0 x
  | _, x => ∃ l : List Sel, x = .lst (l.map Sel.enc) ∧ l.length * 128 ≤ B47 ∧ ∀ v ∈ l, v.Ok
def selSh : List Sh := [.int .i64, .str, .str, .str, .lst 96 argSh, .lst 40 dirSh, .num 1]
def varSh : List Sh := [.str] ++ refSh ++ [.bool] ++ valSh
def opSh : List Sh := [.int .i64, .str, .lst 144 varSh, .num 1]
def fragSh : List Sh := [.str, .str, .num 1]
def querySh : List Sh := [.lst 72 opSh, .lst 56 fragSh]
theorem YS.low {x : T} (h : YS 0 x) : YA 0 x := h
theorem argN_sh {c : List T} (h : Sh.oks YA argSh c) : ∃ a : Arg, c = a.enc ∧ (a.Ok ∧ a.name.length ≤ 140737488355328) := by
  have := reach_le
  obtain ⟨x, c, rfl, ⟨n, rfl, hn⟩, g1⟩ := Sh.oks_cons h
  obtain ⟨v, c', rfl, h1, h2⟩ := val_sh (r := []) (by simpa using g1)
  obtain rfl := Sh.oks_nil h2
  exact ⟨⟨n, v⟩, by simp [Arg.enc, Val.cs], h1, by show n.length ≤ _; omega⟩
theorem dirN_sh {c : List T} (h : Sh.oks YA dirSh c) : ∃ a : Dir, c = a.enc ∧ (a.Ok ∧ ∀ y, y ∈ a.args → y.name.length ≤ 140737488355328) := by
  have := reach_le
  obtain ⟨x, c, rfl, ⟨n, rfl, hn⟩, g1⟩ := Sh.oks_cons h
  obtain ⟨x, c, rfl, hx, g2⟩ := Sh.oks_cons g1
  obtain rfl := Sh.oks_nil g2
  obtain ⟨l, rfl, h1, _, h2⟩ := list_of (fun c hc => argN_sh hc) hx
  exact ⟨⟨n, l⟩, rfl, ⟨by show l.length ≤ _; omega, fun y hy => (h2 y hy).1, by show n.length ≤ _; omega⟩, fun y hy => (h2 y hy).2⟩
theorem sel_sh {c : List T} (h : Sh.oks YS selSh c) : ∃ s : Sel, c = s.enc ∧ s.Ok := by
  have := reach_le
  obtain ⟨x, c, rfl, ⟨k, rfl, _⟩, g1⟩ := Sh.oks_cons h
  obtain ⟨x, c, rfl, ⟨al, rfl, h1⟩, g2⟩ := Sh.oks_cons g1
  obtain ⟨x, c, rfl, ⟨n, rfl, h2⟩, g3⟩ := Sh.oks_cons g2
  obtain ⟨x, c, rfl, ⟨o, rfl, h3⟩, g4⟩ := Sh.oks_cons g3
  obtain ⟨x, c, rfl, hx, g5⟩ := Sh.oks_cons g4
  obtain ⟨as, rfl, a1, _, a2⟩ := list_of (fun c hc => argN_sh hc) (Sh.ok_mono (Y := YS) (Z := YA) (fun _ h => h) _ _ (by decide) hx)
  obtain ⟨x, c, rfl, hx, g6⟩ := Sh.oks_cons g5
  obtain ⟨ds, rfl, d1, _, d2⟩ := list_of (fun c hc => dirN_sh hc) (Sh.ok_mono (Y := YS) (Z := YA) (fun _ h => h) _ _ (by decide) hx)
  obtain ⟨x, c, rfl, ⟨ss, rfl, s1, s2⟩, g7⟩ := Sh.oks_cons g6
  obtain rfl := Sh.oks_nil g7
  exact ⟨.mk k al n o as ds ss, by rw [Sel.enc_eq]; rfl, .mk (by omega) (by omega) (by omega) (by unfold B47; omega) (by omega) s1 a2 d2 s2⟩
def spS (vt st : TypeId) (e : TypeId) : Option Nat := if e = vt then some 0 else if e = st then some 1 else none
theorem sel_wt {P : Program} {vt st : TypeId} (hb : P.bytesOf vt = 80) (hs : shOf P (spV vt) 6 vt = some valSh) (hbs : P.bytesOf st = 128) (hss : shOf P (spS vt st) 12 st = some selSh) : ∀ (n : Nat) (c : List T), WT P n st c → ∃ s : Sel, c = s.enc ∧ s.Ok := by
  have hv := val_wt hb hs
  intro n
  induction n using Nat.strongRecOn with
  | _ n ih =>
    intro c h
    refine sel_sh (shOf_ok (Y := YS) n 12 st selSh c (fun e i k xs hk he hr hl hc => ?_) hss h)
    have := reach_le
    unfold spS at he
    split at he
    · rename_i e1; subst e1
      simp only [Option.some.injEq] at he; subst he
      obtain ⟨l, rfl, h3⟩ := choose_map (f := Val.enc) (Q := Val.Ok) xs fun c hcm => hv k c (hc c hcm)
      rw [hb] at hr
      exact ⟨l, rfl, by unfold B47; simp at hr; omega, h3⟩
    · split at he
      · rename_i _ e1; subst e1
        simp only [Option.some.injEq] at he; subst he
        obtain ⟨l, rfl, h3⟩ := choose_map (f := Sel.enc) (Q := Sel.Ok) xs fun c hcm => ih k hk c (hc c hcm)
        rw [hbs] at hr
        exact ⟨l, rfl, by unfold B47; simp at hr; omega, h3⟩
      · cases he
theorem spS_ok {P : Program} {vt st : TypeId} (hb : P.bytesOf vt = 80) (hs : shOf P (spV vt) 6 vt = some valSh) (hbs : P.bytesOf st = 128) (hss : shOf P (spS vt st) 12 st = some selSh) :
    ∀ e i n xs, spS vt st e = some i → xs.length * P.bytesOf e ≤ reachBytes → xs.length ≤ maxLen → (∀ c ∈ xs, WT P n e c) → YS i (.lst xs) := by
  have hv := val_wt hb hs
  have hp := sel_wt hb hs hbs hss
  intro e i k xs he hr hl hc
  have := reach_le
  unfold spS at he
  split at he
  · rename_i e1; subst e1
    simp only [Option.some.injEq] at he; subst he
    obtain ⟨l, rfl, h3⟩ := choose_map (f := Val.enc) (Q := Val.Ok) xs fun c hcm => hv k c (hc c hcm)
    rw [hb] at hr
    exact ⟨l, rfl, by unfold B47; simp at hr; omega, h3⟩
  · split at he
    · rename_i _ e1; subst e1
      simp only [Option.some.injEq] at he; subst he
      obtain ⟨l, rfl, h3⟩ := choose_map (f := Sel.enc) (Q := Sel.Ok) xs fun c hcm => hp k c (hc c hcm)
      rw [hbs] at hr
      exact ⟨l, rfl, by unfold B47; simp at hr; omega, h3⟩
    · cases he
theorem var_sh {c : List T} (h : Sh.oks YA varSh c) : ∃ a : Var, c = a.enc ∧ a.Ok := by
  have := reach_le
  obtain ⟨x, c, rfl, ⟨n, rfl, hn⟩, g1⟩ := Sh.oks_cons h
  obtain ⟨t, c, rfl, ht, g2⟩ := ref_sh g1
  obtain ⟨x, c, rfl, ⟨b, rfl⟩, g3⟩ := Sh.oks_cons g2
  obtain ⟨v, c, rfl, hv, g4⟩ := val_sh (r := []) (by simpa using g3)
  obtain rfl := Sh.oks_nil g4
  exact ⟨⟨n, t, b, v⟩, by simp [Var.enc, Val.cs], ⟨by show n.length ≤ _; omega, ht, hv⟩⟩
theorem op_sh {c : List T} (h : Sh.oks YS opSh c) : ∃ a : Op, c = a.enc ∧ a.Ok := by
  have := reach_le
  obtain ⟨x, c, rfl, ⟨k, rfl, _⟩, g1⟩ := Sh.oks_cons h
  obtain ⟨x, c, rfl, ⟨n, rfl, h1⟩, g2⟩ := Sh.oks_cons g1
  obtain ⟨x, c, rfl, hx, g3⟩ := Sh.oks_cons g2
  obtain ⟨vs, rfl, v1, _, v2⟩ := list_of (fun c hc => var_sh hc) (Sh.ok_mono (Y := YS) (Z := YA) (fun _ h => h) _ _ (by decide) hx)
  obtain ⟨x, c, rfl, ⟨ss, rfl, s1, s2⟩, g4⟩ := Sh.oks_cons g3
  obtain rfl := Sh.oks_nil g4
  unfold B47 at s1
  exact ⟨⟨k, n, vs, ss⟩, rfl, ⟨by show n.length ≤ _; omega, by show vs.length ≤ _; omega, v2, s1, s2⟩⟩
theorem frag_sh {c : List T} (h : Sh.oks YS fragSh c) : ∃ a : Frag, c = a.enc ∧ a.Ok := by
  have := reach_le
  obtain ⟨x, c, rfl, ⟨n, rfl, h1⟩, g2⟩ := Sh.oks_cons h
  obtain ⟨x, c, rfl, ⟨o, rfl, h2⟩, g3⟩ := Sh.oks_cons g2
  obtain ⟨x, c, rfl, ⟨ss, rfl, s1, s2⟩, g4⟩ := Sh.oks_cons g3
  obtain rfl := Sh.oks_nil g4
  unfold B47 at s1
  exact ⟨⟨n, o, ss⟩, rfl, ⟨by show n.length ≤ _; omega, by show o.length ≤ _; omega, s1, s2⟩⟩
theorem query_sh {r : List Sh} {c : List T} (h : Sh.oks YS (querySh ++ r) c) : ∃ (q : Query) (c' : List T), c = .lst (q.ops.map Op.enc) :: .lst (q.frags.map Frag.enc) :: c' ∧ q.Ok ∧ Sh.oks YS r c' := by
  have := reach_le
  obtain ⟨x, c, rfl, hx, g1⟩ := Sh.oks_cons h
  obtain ⟨os, rfl, o1, _, o2⟩ := list_of (fun c hc => op_sh hc) hx
  obtain ⟨x, c, rfl, hx, g2⟩ := Sh.oks_cons g1
  obtain ⟨fs, rfl, f1, _, f2⟩ := list_of (fun c hc => frag_sh hc) hx
  exact ⟨⟨os, fs⟩, c, rfl, ⟨by show os.length ≤ _; omega, o2, by show fs.length * 56 ≤ _; omega, f2⟩, g2⟩
theorem query_sh0 {c : List T} (h : Sh.oks YS querySh c) : ∃ q : Query, c = [.lst (q.ops.map Op.enc), .lst (q.frags.map Frag.enc)] ∧ q.Ok := by
  obtain ⟨q, c', rfl, h1, h2⟩ := query_sh (r := []) h
  obtain rfl := Sh.oks_nil h2
  exact ⟨q, rfl, h1⟩
theorem docS_sh0 {c : List T} (h : Sh.oks YS docSh c) : ∃ l : List Def, c = [.lst (l.map Def.enc)] ∧ DocOk l :=
  doc_sh0 (Sh.oks_mono (Y := YS) (Z := YA) (fun _ h => h) _ _ (by decide) h)
theorem strS_sh0 {c : List T} (h : Sh.oks YS [.str] c) : ∃ s : Str, c = [.str s] ∧ s.length ≤ 140737488355328 := by
  have := reach_le
  obtain ⟨x, c, rfl, ⟨s, rfl, hs⟩, g⟩ := Sh.oks_cons h
  obtain rfl := Sh.oks_nil g
  exact ⟨s, rfl, by omega⟩
end Go.GB


/-
  GbZH: a law's statement with the bound on its arguments' sizes.
-/
namespace Go.GB
open Go.RowKit Go.WideShapes Go.ChangeShapes
theorem handed {H : Type} {enc : TypeId × Value → H} {a : Assume} {C : Checked} {os : Os} {f : FuncId} {fn : Func} {s : ChangeSpec} {conds : List PathCond} {apart fresh handsOn again : Bool}
    (own : ownKnob C.prog.godebug = none) (started : os.Started) (noInit : C.prog.inits.idxOf? f = none) (hfn : C.prog.funcs[f]? = some fn)
    (witness : ∃ (w : World) (tape : Tape) (i : Go.Input), w.os = os ∧ (w.forCall tape i).Shaped C.prog ∧ i.vars = [] ∧ Go.Input.okWide C.prog (w.forCall tape i) .any w.heap.size f i ∧
      s.pre6 enc C.prog fn conds apart (w.forCall tape i).memory i.args ∧ a.holds C.prog (lone (Frame.enter C.prog f i.args .normal) [] (w.forCall tape i)))
    (contract : ∀ (W : World) (base : Nat) (args : Array Value) (ds gs : List (DataW H)) (before : List MemPlace),
      (∀ (j : Nat) t v, fn.params[j]? = some t → args[j]? = some v → Value.okWide C.prog W .any base t v) →
      DataW.Whole enc C.prog fn.params.toList s.vars apart W args.toList ds gs before →
      (DataW.weightsEach C.prog (fn.params.toList ++ s.plain.varTypes C.prog) (ds ++ gs)).all (· ≤ reachBytes) = true →
      Calls C.prog f args W fun e W' => ∃ v, e = .returned v ∧ s.post enc C.prog fn apart fresh handsOn again W args v W') :
    ReturnsInHanded a C os f .any (s.pre6 enc C.prog fn conds apart) (s.post enc C.prog fn apart fresh handsOn again) := by
  have e : (fun (w : World) (args : Array Value) => (s.pre enc C.prog fn conds apart w args ∧ True) ∧ sizedMet enc C.prog fn (OpenSpec.ofChange s) apart w args) = s.pre6 enc C.prog fn conds apart := by
    funext w args; simp only [and_true]; rfl
  rw [← e]
  obtain ⟨w, tape, i, h1, h2, h3, h4, h5, h6⟩ := witness
  exact returnsInHanded_of_change_and (X := fun _ _ => True) (fun _ _ _ _ _ => trivial) own started noInit hfn ⟨w, tape, i, h1, h2, h3, h4, ⟨⟨h5.1, trivial⟩, h5.2⟩, h6⟩ (fun W base args ds gs before a1 a2 _ a4 _ _ => contract W base args ds gs before a1 a2 a4)
end Go.GB

