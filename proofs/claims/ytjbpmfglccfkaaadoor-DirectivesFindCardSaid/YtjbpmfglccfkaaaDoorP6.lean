/-
  YtjbpmfglccfkaaaDoorP6: lemmas of this proof (part 6). No conditions.
-/
import Derived.Test.YtjbpmfglccfkaaaDoorP5
import Derived.Test.YtjbpmfglccfkaaaDoorP2
import Derived.Carry
import Derived.Handed
import Derived.ChangeSame
import Derived.ProofKit
import Derived.OpenShut
import Derived.JoinedCond
import Derived.Deep.CondSized
import Derived.Test.YtjbpmfglccfkaaaDoorP4

/-
  F23F: chapter 23's functions: the reference's arguments and places.
-/
namespace Go.GB.C23
open Go.GB Go.GB.C11
set_option linter.unusedSimpArgs false
set_option linter.unusedVariables false
set_option maxRecDepth 100000
set_option maxHeartbeats 4000000
variable {P : Program}

def glue (p : Str) : List Str → List Str
  | [] => [p]
  | h :: t => (p ++ h) :: t
structure SrOk (s : Str) (out : List Str) (fr i : Nat) : Prop where
  le : i ≤ s.length + 1
  fl : fr ≤ i
  ol : out.length ≤ i
  go : i ≤ s.length → splS s = out ++ glue ((s.take i).drop fr) (splS (s.drop i))
  en : i = s.length + 1 → splS s = out
end Go.GB.C23


/-
  F23G: chapter 23's functions: the reference's sets, values that fit, arguments.
-/
namespace Go.GB.C23
open Go.GB Go.GB.C11
set_option linter.unusedSimpArgs false
set_option linter.unusedVariables false
set_option maxRecDepth 100000
set_option maxHeartbeats 4000000
variable {P : Program}

/-- directives whose texts are not long -/
structure DOk (d : Dir) : Prop where
  l : d.args.length ≤ 140737488355328
  nm : d.name.length ≤ 140737488355328
  an : ∀ a, a ∈ d.args → a.name.length ≤ 140737488355328 ∧ a.val.Ok ∧ a.val.text.length ≤ 1048576
end Go.GB.C23


/-
  F23H: chapter 23's functions: judging uses of directives.
-/
namespace Go.GB.C23
open Go.GB Go.GB.C11
set_option linter.unusedSimpArgs false
set_option linter.unusedVariables false
set_option maxRecDepth 100000
set_option maxHeartbeats 4000000
variable {P : Program}

theorem rule_len {n : Str} {r : Rule} (h : ruleF n = some r) : r.params.length ≤ 1000 := by
  rcases ruleF_some h with ⟨rfl, rfl⟩ | ⟨rfl, rfl⟩ | ⟨rfl, rfl⟩ | ⟨rfl, rfl⟩ | ⟨rfl, rfl⟩ | ⟨rfl, rfl⟩ | ⟨rfl, rfl⟩ | ⟨rfl, rfl⟩ | ⟨rfl, rfl⟩ | ⟨rfl, rfl⟩ | ⟨rfl, rfl⟩ | ⟨rfl, rfl⟩ | ⟨rfl, rfl⟩ <;> simp
theorem judge_ok (H : Pr23 P) (l : List Dir) (hl : l.length ≤ 140737488355328) (i : Nat) (x : Dir) (hx : l[i]? = some x) (hd : DOk x) (pl : Int) : FnOk P 73 [.t (.lst (l.map Dir.enc)), .t (.int .i64 i), .t (.int .i64 pl)] ⟨[], 0⟩ { v := .t (.int .i64 (judgeF (l.take i) x pl)) } := by
  have hal := hd.l
  have hi := (List.getElem?_eq_some_iff.1 hx).1
  have hR : ∀ R, judgeF (l.take i) x pl = R → FnOk P 73 [.t (.lst (l.map Dir.enc)), .t (.int .i64 i), .t (.int .i64 pl)] ⟨[], 0⟩ { v := .t (.int .i64 R) } := by
    intro R hR
    unfold judgeF at hR
    have hro := ruleOf_ok H x.name
    refine FnOk.run H.i73 H.mixed rfl rfl ?_
    repeat (first | refine fR rfl ?_ | refine fM rfl ?_ | refine aL rfl rfl rfl rfl rfl ?_ | refine aN rfl rfl rfl ?_ | refine a64 rfl rfl rfl ?_ | refine s64 rfl rfl rfl ?_ | refine lM rfl rfl rfl ?_ | refine sTo rfl rfl rfl ?_ | refine sFrom rfl rfl rfl ?_ | refine sSub rfl rfl rfl rfl ?_ | refine lTo rfl rfl rfl rfl ?_ | refine lFrom rfl rfl rfl rfl ?_ | refine lMG rfl rfl rfl rfl ?_ | refine aLG rfl rfl rfl rfl rfl rfl ?_ | refine aNG rfl rfl rfl rfl ?_ | refine a64G rfl rfl rfl rfl ?_ | refine s64G rfl rfl rfl rfl ?_ | refine Mid.quoN rfl rfl rfl rfl (by omega) (by omega) rfl ?_ | refine Mid.remN rfl rfl rfl rfl (by omega) rfl ?_ | refine Mid.lenS rfl rfl ?_ | refine Mid.iaS rfl rfl (by omega) rfl ?_ | refine Mid.iarrS rfl rfl (by omega) rfl ?_ | refine sToG rfl rfl rfl rfl ?_ | refine sFromG rfl rfl rfl rfl ?_ | refine lToG rfl rfl rfl rfl rfl ?_ | refine lF1 rfl rfl rfl rfl ?_ | refine p0 rfl ?_ | refine gr rfl ?_ | refine pu rfl ?_ | fail)
    refine Mid.elemMap rfl rfl rfl hx rfl rfl ?_
    repeat (first | refine fR rfl ?_ | refine fM rfl ?_ | refine aL rfl rfl rfl rfl rfl ?_ | refine aN rfl rfl rfl ?_ | refine a64 rfl rfl rfl ?_ | refine s64 rfl rfl rfl ?_ | refine lM rfl rfl rfl ?_ | refine sTo rfl rfl rfl ?_ | refine sFrom rfl rfl rfl ?_ | refine sSub rfl rfl rfl rfl ?_ | refine lTo rfl rfl rfl rfl ?_ | refine lFrom rfl rfl rfl rfl ?_ | refine lMG rfl rfl rfl rfl ?_ | refine aLG rfl rfl rfl rfl rfl rfl ?_ | refine aNG rfl rfl rfl rfl ?_ | refine a64G rfl rfl rfl rfl ?_ | refine s64G rfl rfl rfl rfl ?_ | refine Mid.quoN rfl rfl rfl rfl (by omega) (by omega) rfl ?_ | refine Mid.remN rfl rfl rfl rfl (by omega) rfl ?_ | refine Mid.lenS rfl rfl ?_ | refine Mid.iaS rfl rfl (by omega) rfl ?_ | refine Mid.iarrS rfl rfl (by omega) rfl ?_ | refine sToG rfl rfl rfl rfl ?_ | refine sFromG rfl rfl rfl rfl ?_ | refine lToG rfl rfl rfl rfl rfl ?_ | refine lF1 rfl rfl rfl rfl ?_ | refine p0 rfl ?_ | refine gr rfl ?_ | refine pu rfl ?_ | fail)
    cases hr : ruleF x.name with
    | none =>
      rw [hr] at hro hR
      subst hR
      refine Mid.call (hro) rfl rfl rfl rfl ?_
      repeat (first | refine fR rfl ?_ | refine fM rfl ?_ | refine aL rfl rfl rfl rfl rfl ?_ | refine aN rfl rfl rfl ?_ | refine a64 rfl rfl rfl ?_ | refine s64 rfl rfl rfl ?_ | refine lM rfl rfl rfl ?_ | refine sTo rfl rfl rfl ?_ | refine sFrom rfl rfl rfl ?_ | refine sSub rfl rfl rfl rfl ?_ | refine lTo rfl rfl rfl rfl ?_ | refine lFrom rfl rfl rfl rfl ?_ | refine lMG rfl rfl rfl rfl ?_ | refine aLG rfl rfl rfl rfl rfl rfl ?_ | refine aNG rfl rfl rfl rfl ?_ | refine a64G rfl rfl rfl rfl ?_ | refine s64G rfl rfl rfl rfl ?_ | refine Mid.quoN rfl rfl rfl rfl (by omega) (by omega) rfl ?_ | refine Mid.remN rfl rfl rfl rfl (by omega) rfl ?_ | refine Mid.lenS rfl rfl ?_ | refine Mid.iaS rfl rfl (by omega) rfl ?_ | refine Mid.iarrS rfl rfl (by omega) rfl ?_ | refine sToG rfl rfl rfl rfl ?_ | refine sFromG rfl rfl rfl rfl ?_ | refine lToG rfl rfl rfl rfl rfl ?_ | refine lF1 rfl rfl rfl rfl ?_ | refine p0 rfl ?_ | refine gr rfl ?_ | refine pu rfl ?_ | fail)
      refine Run.condT rfl rfl rfl ?_
      repeat (first | refine fR rfl ?_ | refine fM rfl ?_ | refine aL rfl rfl rfl rfl rfl ?_ | refine aN rfl rfl rfl ?_ | refine a64 rfl rfl rfl ?_ | refine s64 rfl rfl rfl ?_ | refine lM rfl rfl rfl ?_ | refine sTo rfl rfl rfl ?_ | refine sFrom rfl rfl rfl ?_ | refine sSub rfl rfl rfl rfl ?_ | refine lTo rfl rfl rfl rfl ?_ | refine lFrom rfl rfl rfl rfl ?_ | refine lMG rfl rfl rfl rfl ?_ | refine aLG rfl rfl rfl rfl rfl rfl ?_ | refine aNG rfl rfl rfl rfl ?_ | refine a64G rfl rfl rfl rfl ?_ | refine s64G rfl rfl rfl rfl ?_ | refine Mid.quoN rfl rfl rfl rfl (by omega) (by omega) rfl ?_ | refine Mid.remN rfl rfl rfl rfl (by omega) rfl ?_ | refine Mid.lenS rfl rfl ?_ | refine Mid.iaS rfl rfl (by omega) rfl ?_ | refine Mid.iarrS rfl rfl (by omega) rfl ?_ | refine sToG rfl rfl rfl rfl ?_ | refine sFromG rfl rfl rfl rfl ?_ | refine lToG rfl rfl rfl rfl rfl ?_ | refine lF1 rfl rfl rfl rfl ?_ | refine p0 rfl ?_ | refine gr rfl ?_ | refine pu rfl ?_ | fail)
      refine Run.fin rfl (EndOk.go ?_); exact .t rfl
    | some r =>
      have hrl := rule_len hr
      rw [hr] at hro hR
      simp only at hR
      refine Mid.call (hro) rfl rfl rfl rfl ?_
      repeat (first | refine fR rfl ?_ | refine fM rfl ?_ | refine aL rfl rfl rfl rfl rfl ?_ | refine aN rfl rfl rfl ?_ | refine a64 rfl rfl rfl ?_ | refine s64 rfl rfl rfl ?_ | refine lM rfl rfl rfl ?_ | refine sTo rfl rfl rfl ?_ | refine sFrom rfl rfl rfl ?_ | refine sSub rfl rfl rfl rfl ?_ | refine lTo rfl rfl rfl rfl ?_ | refine lFrom rfl rfl rfl rfl ?_ | refine lMG rfl rfl rfl rfl ?_ | refine aLG rfl rfl rfl rfl rfl rfl ?_ | refine aNG rfl rfl rfl rfl ?_ | refine a64G rfl rfl rfl rfl ?_ | refine s64G rfl rfl rfl rfl ?_ | refine Mid.quoN rfl rfl rfl rfl (by omega) (by omega) rfl ?_ | refine Mid.remN rfl rfl rfl rfl (by omega) rfl ?_ | refine Mid.lenS rfl rfl ?_ | refine Mid.iaS rfl rfl (by omega) rfl ?_ | refine Mid.iarrS rfl rfl (by omega) rfl ?_ | refine sToG rfl rfl rfl rfl ?_ | refine sFromG rfl rfl rfl rfl ?_ | refine lToG rfl rfl rfl rfl rfl ?_ | refine lF1 rfl rfl rfl rfl ?_ | refine p0 rfl ?_ | refine gr rfl ?_ | refine pu rfl ?_ | fail)
      refine Run.cond rfl rfl (fun h1 => ?_) (fun h1 => ?_)
      · have h1' : atP r.places pl = false := by
          unfold atP
          have h2 : (andI .i64 r.places pl == 0) = true := by simpa using h1
          simp only [bne, h2]; rfl
        rw [if_pos h1'] at hR
        subst hR
        repeat (first | refine fR rfl ?_ | refine fM rfl ?_ | refine aL rfl rfl rfl rfl rfl ?_ | refine aN rfl rfl rfl ?_ | refine a64 rfl rfl rfl ?_ | refine s64 rfl rfl rfl ?_ | refine lM rfl rfl rfl ?_ | refine sTo rfl rfl rfl ?_ | refine sFrom rfl rfl rfl ?_ | refine sSub rfl rfl rfl rfl ?_ | refine lTo rfl rfl rfl rfl ?_ | refine lFrom rfl rfl rfl rfl ?_ | refine lMG rfl rfl rfl rfl ?_ | refine aLG rfl rfl rfl rfl rfl rfl ?_ | refine aNG rfl rfl rfl rfl ?_ | refine a64G rfl rfl rfl rfl ?_ | refine s64G rfl rfl rfl rfl ?_ | refine Mid.quoN rfl rfl rfl rfl (by omega) (by omega) rfl ?_ | refine Mid.remN rfl rfl rfl rfl (by omega) rfl ?_ | refine Mid.lenS rfl rfl ?_ | refine Mid.iaS rfl rfl (by omega) rfl ?_ | refine Mid.iarrS rfl rfl (by omega) rfl ?_ | refine sToG rfl rfl rfl rfl ?_ | refine sFromG rfl rfl rfl rfl ?_ | refine lToG rfl rfl rfl rfl rfl ?_ | refine lF1 rfl rfl rfl rfl ?_ | refine p0 rfl ?_ | refine gr rfl ?_ | refine pu rfl ?_ | fail)
        refine Run.fin rfl (EndOk.go ?_); exact .t rfl
      · have h1' : ¬ atP r.places pl = false := by
          unfold atP
          have h2 : (andI .i64 r.places pl == 0) = false := by simpa using h1
          simp only [bne, h2]; simp
        rw [if_neg h1'] at hR
        repeat (first | refine fR rfl ?_ | refine fM rfl ?_ | refine aL rfl rfl rfl rfl rfl ?_ | refine aN rfl rfl rfl ?_ | refine a64 rfl rfl rfl ?_ | refine s64 rfl rfl rfl ?_ | refine lM rfl rfl rfl ?_ | refine sTo rfl rfl rfl ?_ | refine sFrom rfl rfl rfl ?_ | refine sSub rfl rfl rfl rfl ?_ | refine lTo rfl rfl rfl rfl ?_ | refine lFrom rfl rfl rfl rfl ?_ | refine lMG rfl rfl rfl rfl ?_ | refine aLG rfl rfl rfl rfl rfl rfl ?_ | refine aNG rfl rfl rfl rfl ?_ | refine a64G rfl rfl rfl rfl ?_ | refine s64G rfl rfl rfl rfl ?_ | refine Mid.quoN rfl rfl rfl rfl (by omega) (by omega) rfl ?_ | refine Mid.remN rfl rfl rfl rfl (by omega) rfl ?_ | refine Mid.lenS rfl rfl ?_ | refine Mid.iaS rfl rfl (by omega) rfl ?_ | refine Mid.iarrS rfl rfl (by omega) rfl ?_ | refine sToG rfl rfl rfl rfl ?_ | refine sFromG rfl rfl rfl rfl ?_ | refine lToG rfl rfl rfl rfl rfl ?_ | refine lF1 rfl rfl rfl rfl ?_ | refine p0 rfl ?_ | refine gr rfl ?_ | refine pu rfl ?_ | fail)
        refine caG rfl rfl (fun hg => ⟨_, rfl, hasD_ok H 25 (l.take i) (by rw [List.length_take]; omega) x.name (.inl rfl), rfl⟩) rfl rfl ?_
        repeat (first | refine fR rfl ?_ | refine fM rfl ?_ | refine aL rfl rfl rfl rfl rfl ?_ | refine aN rfl rfl rfl ?_ | refine a64 rfl rfl rfl ?_ | refine s64 rfl rfl rfl ?_ | refine lM rfl rfl rfl ?_ | refine sTo rfl rfl rfl ?_ | refine sFrom rfl rfl rfl ?_ | refine sSub rfl rfl rfl rfl ?_ | refine lTo rfl rfl rfl rfl ?_ | refine lFrom rfl rfl rfl rfl ?_ | refine lMG rfl rfl rfl rfl ?_ | refine aLG rfl rfl rfl rfl rfl rfl ?_ | refine aNG rfl rfl rfl rfl ?_ | refine a64G rfl rfl rfl rfl ?_ | refine s64G rfl rfl rfl rfl ?_ | refine Mid.quoN rfl rfl rfl rfl (by omega) (by omega) rfl ?_ | refine Mid.remN rfl rfl rfl rfl (by omega) rfl ?_ | refine Mid.lenS rfl rfl ?_ | refine Mid.iaS rfl rfl (by omega) rfl ?_ | refine Mid.iarrS rfl rfl (by omega) rfl ?_ | refine sToG rfl rfl rfl rfl ?_ | refine sFromG rfl rfl rfl rfl ?_ | refine lToG rfl rfl rfl rfl rfl ?_ | refine lF1 rfl rfl rfl rfl ?_ | refine p0 rfl ?_ | refine gr rfl ?_ | refine pu rfl ?_ | fail)
        refine Run.cond rfl rfl (fun h2 => ?_) (fun h2 => ?_)
        · have h2' : (!r.again && hasD x.name (l.take i)) = true := h2
          rw [if_pos h2'] at hR
          subst hR
          repeat (first | refine fR rfl ?_ | refine fM rfl ?_ | refine aL rfl rfl rfl rfl rfl ?_ | refine aN rfl rfl rfl ?_ | refine a64 rfl rfl rfl ?_ | refine s64 rfl rfl rfl ?_ | refine lM rfl rfl rfl ?_ | refine sTo rfl rfl rfl ?_ | refine sFrom rfl rfl rfl ?_ | refine sSub rfl rfl rfl rfl ?_ | refine lTo rfl rfl rfl rfl ?_ | refine lFrom rfl rfl rfl rfl ?_ | refine lMG rfl rfl rfl rfl ?_ | refine aLG rfl rfl rfl rfl rfl rfl ?_ | refine aNG rfl rfl rfl rfl ?_ | refine a64G rfl rfl rfl rfl ?_ | refine s64G rfl rfl rfl rfl ?_ | refine Mid.quoN rfl rfl rfl rfl (by omega) (by omega) rfl ?_ | refine Mid.remN rfl rfl rfl rfl (by omega) rfl ?_ | refine Mid.lenS rfl rfl ?_ | refine Mid.iaS rfl rfl (by omega) rfl ?_ | refine Mid.iarrS rfl rfl (by omega) rfl ?_ | refine sToG rfl rfl rfl rfl ?_ | refine sFromG rfl rfl rfl rfl ?_ | refine lToG rfl rfl rfl rfl rfl ?_ | refine lF1 rfl rfl rfl rfl ?_ | refine p0 rfl ?_ | refine gr rfl ?_ | refine pu rfl ?_ | fail)
          refine Run.fin rfl (EndOk.go ?_); exact .t rfl
        · have h2' : ¬ (!r.again && hasD x.name (l.take i)) = true := by rw [show (!r.again && hasD x.name (l.take i)) = false from h2]; simp
          rw [if_neg h2'] at hR
          unfold argsE at hR
          repeat (first | refine fR rfl ?_ | refine fM rfl ?_ | refine aL rfl rfl rfl rfl rfl ?_ | refine aN rfl rfl rfl ?_ | refine a64 rfl rfl rfl ?_ | refine s64 rfl rfl rfl ?_ | refine lM rfl rfl rfl ?_ | refine sTo rfl rfl rfl ?_ | refine sFrom rfl rfl rfl ?_ | refine sSub rfl rfl rfl rfl ?_ | refine lTo rfl rfl rfl rfl ?_ | refine lFrom rfl rfl rfl rfl ?_ | refine lMG rfl rfl rfl rfl ?_ | refine aLG rfl rfl rfl rfl rfl rfl ?_ | refine aNG rfl rfl rfl rfl ?_ | refine a64G rfl rfl rfl rfl ?_ | refine s64G rfl rfl rfl rfl ?_ | refine Mid.quoN rfl rfl rfl rfl (by omega) (by omega) rfl ?_ | refine Mid.remN rfl rfl rfl rfl (by omega) rfl ?_ | refine Mid.lenS rfl rfl ?_ | refine Mid.iaS rfl rfl (by omega) rfl ?_ | refine Mid.iarrS rfl rfl (by omega) rfl ?_ | refine sToG rfl rfl rfl rfl ?_ | refine sFromG rfl rfl rfl rfl ?_ | refine lToG rfl rfl rfl rfl rfl ?_ | refine lF1 rfl rfl rfl rfl ?_ | refine p0 rfl ?_ | refine gr rfl ?_ | refine pu rfl ?_ | fail)
          refine rList x.args (fun k (_ : Unit) => { env := [(7, .ptr 0 0), (8, .ptr 1 0), (57, .t (.lst (x.args.map Arg.enc))), (58, .t (.int .i64 x.args.length)), (59, .t (.int .i64 k))], s := ⟨[(0, .cells [.t (.str x.name), .t (.lst (x.args.map Arg.enc))]), (1, .cells [.t (.int .i64 r.places), .t (.bool r.again), .t (.lst (r.params.map PRule.enc))])], 2⟩ }) (fun q k _ => badA r.params [] x.args = badA r.params (x.args.take k) q) 2 () rfl rfl rfl rfl rfl ?_ ?_
          · intro _ hinv
            have hb : badA r.params [] x.args = false := by rw [hinv]; rfl
            rw [if_neg (by rw [hb]; simp)] at hR
            repeat (first | refine fR rfl ?_ | refine fM rfl ?_ | refine aL rfl rfl rfl rfl rfl ?_ | refine aN rfl rfl rfl ?_ | refine a64 rfl rfl rfl ?_ | refine s64 rfl rfl rfl ?_ | refine lM rfl rfl rfl ?_ | refine sTo rfl rfl rfl ?_ | refine sFrom rfl rfl rfl ?_ | refine sSub rfl rfl rfl rfl ?_ | refine lTo rfl rfl rfl rfl ?_ | refine lFrom rfl rfl rfl rfl ?_ | refine lMG rfl rfl rfl rfl ?_ | refine aLG rfl rfl rfl rfl rfl rfl ?_ | refine aNG rfl rfl rfl rfl ?_ | refine a64G rfl rfl rfl rfl ?_ | refine s64G rfl rfl rfl rfl ?_ | refine Mid.quoN rfl rfl rfl rfl (by omega) (by omega) rfl ?_ | refine Mid.remN rfl rfl rfl rfl (by omega) rfl ?_ | refine Mid.lenS rfl rfl ?_ | refine Mid.iaS rfl rfl (by omega) rfl ?_ | refine Mid.iarrS rfl rfl (by omega) rfl ?_ | refine sToG rfl rfl rfl rfl ?_ | refine sFromG rfl rfl rfl rfl ?_ | refine lToG rfl rfl rfl rfl rfl ?_ | refine lF1 rfl rfl rfl rfl ?_ | refine p0 rfl ?_ | refine gr rfl ?_ | refine pu rfl ?_ | fail)
            refine Run.condF rfl rfl (by simp) ?_
            repeat (first | refine fR rfl ?_ | refine fM rfl ?_ | refine aL rfl rfl rfl rfl rfl ?_ | refine aN rfl rfl rfl ?_ | refine a64 rfl rfl rfl ?_ | refine s64 rfl rfl rfl ?_ | refine lM rfl rfl rfl ?_ | refine sTo rfl rfl rfl ?_ | refine sFrom rfl rfl rfl ?_ | refine sSub rfl rfl rfl rfl ?_ | refine lTo rfl rfl rfl rfl ?_ | refine lFrom rfl rfl rfl rfl ?_ | refine lMG rfl rfl rfl rfl ?_ | refine aLG rfl rfl rfl rfl rfl rfl ?_ | refine aNG rfl rfl rfl rfl ?_ | refine a64G rfl rfl rfl rfl ?_ | refine s64G rfl rfl rfl rfl ?_ | refine Mid.quoN rfl rfl rfl rfl (by omega) (by omega) rfl ?_ | refine Mid.remN rfl rfl rfl rfl (by omega) rfl ?_ | refine Mid.lenS rfl rfl ?_ | refine Mid.iaS rfl rfl (by omega) rfl ?_ | refine Mid.iarrS rfl rfl (by omega) rfl ?_ | refine sToG rfl rfl rfl rfl ?_ | refine sFromG rfl rfl rfl rfl ?_ | refine lToG rfl rfl rfl rfl rfl ?_ | refine lF1 rfl rfl rfl rfl ?_ | refine p0 rfl ?_ | refine gr rfl ?_ | refine pu rfl ?_ | fail)
            refine rList r.params (fun k (_ : Unit) => { env := [(7, .ptr 0 0), (8, .ptr 1 0), (87, .t (.lst (r.params.map PRule.enc))), (88, .t (.int .i64 r.params.length)), (89, .t (.int .i64 k))], s := ⟨[(0, .cells [.t (.str x.name), .t (.lst (x.args.map Arg.enc))]), (1, .cells [.t (.int .i64 r.places), .t (.bool r.again), .t (.lst (r.params.map PRule.enc))])], 2⟩ }) (fun q k _ => missA r.params x.args = q.any fun p => !(argF p.name x.args).isSome && !p.may) 2 () rfl rfl rfl rfl rfl ?_ ?_
            · intro _ hm
              rw [if_neg (by rw [hm]; simp)] at hR
              repeat (first | refine fR rfl ?_ | refine fM rfl ?_ | refine aL rfl rfl rfl rfl rfl ?_ | refine aN rfl rfl rfl ?_ | refine a64 rfl rfl rfl ?_ | refine s64 rfl rfl rfl ?_ | refine lM rfl rfl rfl ?_ | refine sTo rfl rfl rfl ?_ | refine sFrom rfl rfl rfl ?_ | refine sSub rfl rfl rfl rfl ?_ | refine lTo rfl rfl rfl rfl ?_ | refine lFrom rfl rfl rfl rfl ?_ | refine lMG rfl rfl rfl rfl ?_ | refine aLG rfl rfl rfl rfl rfl rfl ?_ | refine aNG rfl rfl rfl rfl ?_ | refine a64G rfl rfl rfl rfl ?_ | refine s64G rfl rfl rfl rfl ?_ | refine Mid.quoN rfl rfl rfl rfl (by omega) (by omega) rfl ?_ | refine Mid.remN rfl rfl rfl rfl (by omega) rfl ?_ | refine Mid.lenS rfl rfl ?_ | refine Mid.iaS rfl rfl (by omega) rfl ?_ | refine Mid.iarrS rfl rfl (by omega) rfl ?_ | refine sToG rfl rfl rfl rfl ?_ | refine sFromG rfl rfl rfl rfl ?_ | refine lToG rfl rfl rfl rfl rfl ?_ | refine lF1 rfl rfl rfl rfl ?_ | refine p0 rfl ?_ | refine gr rfl ?_ | refine pu rfl ?_ | fail)
              refine Run.condF rfl rfl (by simp) ?_
              repeat (first | refine fR rfl ?_ | refine fM rfl ?_ | refine aL rfl rfl rfl rfl rfl ?_ | refine aN rfl rfl rfl ?_ | refine a64 rfl rfl rfl ?_ | refine s64 rfl rfl rfl ?_ | refine lM rfl rfl rfl ?_ | refine sTo rfl rfl rfl ?_ | refine sFrom rfl rfl rfl ?_ | refine sSub rfl rfl rfl rfl ?_ | refine lTo rfl rfl rfl rfl ?_ | refine lFrom rfl rfl rfl rfl ?_ | refine lMG rfl rfl rfl rfl ?_ | refine aLG rfl rfl rfl rfl rfl rfl ?_ | refine aNG rfl rfl rfl rfl ?_ | refine a64G rfl rfl rfl rfl ?_ | refine s64G rfl rfl rfl rfl ?_ | refine Mid.quoN rfl rfl rfl rfl (by omega) (by omega) rfl ?_ | refine Mid.remN rfl rfl rfl rfl (by omega) rfl ?_ | refine Mid.lenS rfl rfl ?_ | refine Mid.iaS rfl rfl (by omega) rfl ?_ | refine Mid.iarrS rfl rfl (by omega) rfl ?_ | refine sToG rfl rfl rfl rfl ?_ | refine sFromG rfl rfl rfl rfl ?_ | refine lToG rfl rfl rfl rfl rfl ?_ | refine lF1 rfl rfl rfl rfl ?_ | refine p0 rfl ?_ | refine gr rfl ?_ | refine pu rfl ?_ | fail)
              refine rList x.args (fun k (_ : Unit) => { env := [(8, .ptr 1 0), (109, .t (.lst (x.args.map Arg.enc))), (110, .t (.int .i64 x.args.length)), (111, .t (.int .i64 k))], s := ⟨[(1, .cells [.t (.int .i64 r.places), .t (.bool r.again), .t (.lst (r.params.map PRule.enc))])], 2⟩ }) (fun q k _ => unfitA r.params x.args = unfitA r.params q) 2 () rfl rfl rfl rfl rfl ?_ ?_
              · intro _ hu
                rw [if_neg (by rw [hu]; simp [unfitA])] at hR
                subst hR
                repeat (first | refine fR rfl ?_ | refine fM rfl ?_ | refine aL rfl rfl rfl rfl rfl ?_ | refine aN rfl rfl rfl ?_ | refine a64 rfl rfl rfl ?_ | refine s64 rfl rfl rfl ?_ | refine lM rfl rfl rfl ?_ | refine sTo rfl rfl rfl ?_ | refine sFrom rfl rfl rfl ?_ | refine sSub rfl rfl rfl rfl ?_ | refine lTo rfl rfl rfl rfl ?_ | refine lFrom rfl rfl rfl rfl ?_ | refine lMG rfl rfl rfl rfl ?_ | refine aLG rfl rfl rfl rfl rfl rfl ?_ | refine aNG rfl rfl rfl rfl ?_ | refine a64G rfl rfl rfl rfl ?_ | refine s64G rfl rfl rfl rfl ?_ | refine Mid.quoN rfl rfl rfl rfl (by omega) (by omega) rfl ?_ | refine Mid.remN rfl rfl rfl rfl (by omega) rfl ?_ | refine Mid.lenS rfl rfl ?_ | refine Mid.iaS rfl rfl (by omega) rfl ?_ | refine Mid.iarrS rfl rfl (by omega) rfl ?_ | refine sToG rfl rfl rfl rfl ?_ | refine sFromG rfl rfl rfl rfl ?_ | refine lToG rfl rfl rfl rfl rfl ?_ | refine lF1 rfl rfl rfl rfl ?_ | refine p0 rfl ?_ | refine gr rfl ?_ | refine pu rfl ?_ | fail)
                refine Run.condF rfl rfl (by simp) ?_
                repeat (first | refine fR rfl ?_ | refine fM rfl ?_ | refine aL rfl rfl rfl rfl rfl ?_ | refine aN rfl rfl rfl ?_ | refine a64 rfl rfl rfl ?_ | refine s64 rfl rfl rfl ?_ | refine lM rfl rfl rfl ?_ | refine sTo rfl rfl rfl ?_ | refine sFrom rfl rfl rfl ?_ | refine sSub rfl rfl rfl rfl ?_ | refine lTo rfl rfl rfl rfl ?_ | refine lFrom rfl rfl rfl rfl ?_ | refine lMG rfl rfl rfl rfl ?_ | refine aLG rfl rfl rfl rfl rfl rfl ?_ | refine aNG rfl rfl rfl rfl ?_ | refine a64G rfl rfl rfl rfl ?_ | refine s64G rfl rfl rfl rfl ?_ | refine Mid.quoN rfl rfl rfl rfl (by omega) (by omega) rfl ?_ | refine Mid.remN rfl rfl rfl rfl (by omega) rfl ?_ | refine Mid.lenS rfl rfl ?_ | refine Mid.iaS rfl rfl (by omega) rfl ?_ | refine Mid.iarrS rfl rfl (by omega) rfl ?_ | refine sToG rfl rfl rfl rfl ?_ | refine sFromG rfl rfl rfl rfl ?_ | refine lToG rfl rfl rfl rfl rfl ?_ | refine lF1 rfl rfl rfl rfl ?_ | refine p0 rfl ?_ | refine gr rfl ?_ | refine pu rfl ?_ | fail)
                refine Run.fin rfl (EndOk.go ?_); exact .t rfl
              · intro k y q _ g1 gi gd hu ih
                have hy := hd.an y (List.mem_of_getElem? g1)
                have hfd := bad_found hb y (List.mem_of_getElem? g1)
                have hpo := param_ok H r hrl y.name
                cases hf : findP y.name r.params with
                | none => rw [hf] at hfd; cases hfd
                | some p =>
                  rw [hf] at hpo
                  repeat (first | refine fR rfl ?_ | refine fM rfl ?_ | refine aL rfl rfl rfl rfl rfl ?_ | refine aN rfl rfl rfl ?_ | refine a64 rfl rfl rfl ?_ | refine s64 rfl rfl rfl ?_ | refine lM rfl rfl rfl ?_ | refine sTo rfl rfl rfl ?_ | refine sFrom rfl rfl rfl ?_ | refine sSub rfl rfl rfl rfl ?_ | refine lTo rfl rfl rfl rfl ?_ | refine lFrom rfl rfl rfl rfl ?_ | refine lMG rfl rfl rfl rfl ?_ | refine aLG rfl rfl rfl rfl rfl rfl ?_ | refine aNG rfl rfl rfl rfl ?_ | refine a64G rfl rfl rfl rfl ?_ | refine s64G rfl rfl rfl rfl ?_ | refine Mid.quoN rfl rfl rfl rfl (by omega) (by omega) rfl ?_ | refine Mid.remN rfl rfl rfl rfl (by omega) rfl ?_ | refine Mid.lenS rfl rfl ?_ | refine Mid.iaS rfl rfl (by omega) rfl ?_ | refine Mid.iarrS rfl rfl (by omega) rfl ?_ | refine sToG rfl rfl rfl rfl ?_ | refine sFromG rfl rfl rfl rfl ?_ | refine lToG rfl rfl rfl rfl rfl ?_ | refine lF1 rfl rfl rfl rfl ?_ | refine p0 rfl ?_ | refine gr rfl ?_ | refine pu rfl ?_ | fail)
                  refine Run.condT rfl rfl (by simp; omega) ?_
                  repeat (first | refine fR rfl ?_ | refine fM rfl ?_ | refine aL rfl rfl rfl rfl rfl ?_ | refine aN rfl rfl rfl ?_ | refine a64 rfl rfl rfl ?_ | refine s64 rfl rfl rfl ?_ | refine lM rfl rfl rfl ?_ | refine sTo rfl rfl rfl ?_ | refine sFrom rfl rfl rfl ?_ | refine sSub rfl rfl rfl rfl ?_ | refine lTo rfl rfl rfl rfl ?_ | refine lFrom rfl rfl rfl rfl ?_ | refine lMG rfl rfl rfl rfl ?_ | refine aLG rfl rfl rfl rfl rfl rfl ?_ | refine aNG rfl rfl rfl rfl ?_ | refine a64G rfl rfl rfl rfl ?_ | refine s64G rfl rfl rfl rfl ?_ | refine Mid.quoN rfl rfl rfl rfl (by omega) (by omega) rfl ?_ | refine Mid.remN rfl rfl rfl rfl (by omega) rfl ?_ | refine Mid.lenS rfl rfl ?_ | refine Mid.iaS rfl rfl (by omega) rfl ?_ | refine Mid.iarrS rfl rfl (by omega) rfl ?_ | refine sToG rfl rfl rfl rfl ?_ | refine sFromG rfl rfl rfl rfl ?_ | refine lToG rfl rfl rfl rfl rfl ?_ | refine lF1 rfl rfl rfl rfl ?_ | refine p0 rfl ?_ | refine gr rfl ?_ | refine pu rfl ?_ | fail)
                  refine Mid.elemMap rfl rfl rfl g1 rfl rfl ?_
                  repeat (first | refine fR rfl ?_ | refine fM rfl ?_ | refine aL rfl rfl rfl rfl rfl ?_ | refine aN rfl rfl rfl ?_ | refine a64 rfl rfl rfl ?_ | refine s64 rfl rfl rfl ?_ | refine lM rfl rfl rfl ?_ | refine sTo rfl rfl rfl ?_ | refine sFrom rfl rfl rfl ?_ | refine sSub rfl rfl rfl rfl ?_ | refine lTo rfl rfl rfl rfl ?_ | refine lFrom rfl rfl rfl rfl ?_ | refine lMG rfl rfl rfl rfl ?_ | refine aLG rfl rfl rfl rfl rfl rfl ?_ | refine aNG rfl rfl rfl rfl ?_ | refine a64G rfl rfl rfl rfl ?_ | refine s64G rfl rfl rfl rfl ?_ | refine Mid.quoN rfl rfl rfl rfl (by omega) (by omega) rfl ?_ | refine Mid.remN rfl rfl rfl rfl (by omega) rfl ?_ | refine Mid.lenS rfl rfl ?_ | refine Mid.iaS rfl rfl (by omega) rfl ?_ | refine Mid.iarrS rfl rfl (by omega) rfl ?_ | refine sToG rfl rfl rfl rfl ?_ | refine sFromG rfl rfl rfl rfl ?_ | refine lToG rfl rfl rfl rfl rfl ?_ | refine lF1 rfl rfl rfl rfl ?_ | refine p0 rfl ?_ | refine gr rfl ?_ | refine pu rfl ?_ | fail)
                  refine Mid.call (hpo) rfl rfl rfl rfl ?_
                  repeat (first | refine fR rfl ?_ | refine fM rfl ?_ | refine aL rfl rfl rfl rfl rfl ?_ | refine aN rfl rfl rfl ?_ | refine a64 rfl rfl rfl ?_ | refine s64 rfl rfl rfl ?_ | refine lM rfl rfl rfl ?_ | refine sTo rfl rfl rfl ?_ | refine sFrom rfl rfl rfl ?_ | refine sSub rfl rfl rfl rfl ?_ | refine lTo rfl rfl rfl rfl ?_ | refine lFrom rfl rfl rfl rfl ?_ | refine lMG rfl rfl rfl rfl ?_ | refine aLG rfl rfl rfl rfl rfl rfl ?_ | refine aNG rfl rfl rfl rfl ?_ | refine a64G rfl rfl rfl rfl ?_ | refine s64G rfl rfl rfl rfl ?_ | refine Mid.quoN rfl rfl rfl rfl (by omega) (by omega) rfl ?_ | refine Mid.remN rfl rfl rfl rfl (by omega) rfl ?_ | refine Mid.lenS rfl rfl ?_ | refine Mid.iaS rfl rfl (by omega) rfl ?_ | refine Mid.iarrS rfl rfl (by omega) rfl ?_ | refine sToG rfl rfl rfl rfl ?_ | refine sFromG rfl rfl rfl rfl ?_ | refine lToG rfl rfl rfl rfl rfl ?_ | refine lF1 rfl rfl rfl rfl ?_ | refine p0 rfl ?_ | refine gr rfl ?_ | refine pu rfl ?_ | fail)
                  refine Mid.callv0 rfl (fitsK_ok H p.k y.val hy.2.1 hy.2.2) rfl rfl rfl rfl ?_
                  repeat (first | refine fR rfl ?_ | refine fM rfl ?_ | refine aL rfl rfl rfl rfl rfl ?_ | refine aN rfl rfl rfl ?_ | refine a64 rfl rfl rfl ?_ | refine s64 rfl rfl rfl ?_ | refine lM rfl rfl rfl ?_ | refine sTo rfl rfl rfl ?_ | refine sFrom rfl rfl rfl ?_ | refine sSub rfl rfl rfl rfl ?_ | refine lTo rfl rfl rfl rfl ?_ | refine lFrom rfl rfl rfl rfl ?_ | refine lMG rfl rfl rfl rfl ?_ | refine aLG rfl rfl rfl rfl rfl rfl ?_ | refine aNG rfl rfl rfl rfl ?_ | refine a64G rfl rfl rfl rfl ?_ | refine s64G rfl rfl rfl rfl ?_ | refine Mid.quoN rfl rfl rfl rfl (by omega) (by omega) rfl ?_ | refine Mid.remN rfl rfl rfl rfl (by omega) rfl ?_ | refine Mid.lenS rfl rfl ?_ | refine Mid.iaS rfl rfl (by omega) rfl ?_ | refine Mid.iarrS rfl rfl (by omega) rfl ?_ | refine sToG rfl rfl rfl rfl ?_ | refine sFromG rfl rfl rfl rfl ?_ | refine lToG rfl rfl rfl rfl rfl ?_ | refine lF1 rfl rfl rfl rfl ?_ | refine p0 rfl ?_ | refine gr rfl ?_ | refine pu rfl ?_ | fail)
                  refine Run.cond rfl rfl (fun hc => ?_) (fun hc => ?_)
                  · rw [if_pos (by rw [hu, unfitA, List.any_cons, hf]; show ((!fitsK p.k y.val) || _) = true; rw [show (!fitsK p.k y.val) = true from hc]; rfl)] at hR
                    subst hR
                    repeat (first | refine fR rfl ?_ | refine fM rfl ?_ | refine aL rfl rfl rfl rfl rfl ?_ | refine aN rfl rfl rfl ?_ | refine a64 rfl rfl rfl ?_ | refine s64 rfl rfl rfl ?_ | refine lM rfl rfl rfl ?_ | refine sTo rfl rfl rfl ?_ | refine sFrom rfl rfl rfl ?_ | refine sSub rfl rfl rfl rfl ?_ | refine lTo rfl rfl rfl rfl ?_ | refine lFrom rfl rfl rfl rfl ?_ | refine lMG rfl rfl rfl rfl ?_ | refine aLG rfl rfl rfl rfl rfl rfl ?_ | refine aNG rfl rfl rfl rfl ?_ | refine a64G rfl rfl rfl rfl ?_ | refine s64G rfl rfl rfl rfl ?_ | refine Mid.quoN rfl rfl rfl rfl (by omega) (by omega) rfl ?_ | refine Mid.remN rfl rfl rfl rfl (by omega) rfl ?_ | refine Mid.lenS rfl rfl ?_ | refine Mid.iaS rfl rfl (by omega) rfl ?_ | refine Mid.iarrS rfl rfl (by omega) rfl ?_ | refine sToG rfl rfl rfl rfl ?_ | refine sFromG rfl rfl rfl rfl ?_ | refine lToG rfl rfl rfl rfl rfl ?_ | refine lF1 rfl rfl rfl rfl ?_ | refine p0 rfl ?_ | refine gr rfl ?_ | refine pu rfl ?_ | fail)
                    refine Run.fin rfl (EndOk.go ?_); exact .t rfl
                  · repeat (first | refine fR rfl ?_ | refine fM rfl ?_ | refine aL rfl rfl rfl rfl rfl ?_ | refine aN rfl rfl rfl ?_ | refine a64 rfl rfl rfl ?_ | refine s64 rfl rfl rfl ?_ | refine lM rfl rfl rfl ?_ | refine sTo rfl rfl rfl ?_ | refine sFrom rfl rfl rfl ?_ | refine sSub rfl rfl rfl rfl ?_ | refine lTo rfl rfl rfl rfl ?_ | refine lFrom rfl rfl rfl rfl ?_ | refine lMG rfl rfl rfl rfl ?_ | refine aLG rfl rfl rfl rfl rfl rfl ?_ | refine aNG rfl rfl rfl rfl ?_ | refine a64G rfl rfl rfl rfl ?_ | refine s64G rfl rfl rfl rfl ?_ | refine Mid.quoN rfl rfl rfl rfl (by omega) (by omega) rfl ?_ | refine Mid.remN rfl rfl rfl rfl (by omega) rfl ?_ | refine Mid.lenS rfl rfl ?_ | refine Mid.iaS rfl rfl (by omega) rfl ?_ | refine Mid.iarrS rfl rfl (by omega) rfl ?_ | refine sToG rfl rfl rfl rfl ?_ | refine sFromG rfl rfl rfl rfl ?_ | refine lToG rfl rfl rfl rfl rfl ?_ | refine lF1 rfl rfl rfl rfl ?_ | refine p0 rfl ?_ | refine gr rfl ?_ | refine pu rfl ?_ | fail)
                    exact rWeak 2 rfl (ih () (by rw [hu, unfitA, List.any_cons, hf]; show ((!fitsK p.k y.val) || _) = _; rw [show (!fitsK p.k y.val) = false from hc]; rfl)) rfl rfl rfl
            · intro k p q _ g1 gi gd hm ih
              repeat (first | refine fR rfl ?_ | refine fM rfl ?_ | refine aL rfl rfl rfl rfl rfl ?_ | refine aN rfl rfl rfl ?_ | refine a64 rfl rfl rfl ?_ | refine s64 rfl rfl rfl ?_ | refine lM rfl rfl rfl ?_ | refine sTo rfl rfl rfl ?_ | refine sFrom rfl rfl rfl ?_ | refine sSub rfl rfl rfl rfl ?_ | refine lTo rfl rfl rfl rfl ?_ | refine lFrom rfl rfl rfl rfl ?_ | refine lMG rfl rfl rfl rfl ?_ | refine aLG rfl rfl rfl rfl rfl rfl ?_ | refine aNG rfl rfl rfl rfl ?_ | refine a64G rfl rfl rfl rfl ?_ | refine s64G rfl rfl rfl rfl ?_ | refine Mid.quoN rfl rfl rfl rfl (by omega) (by omega) rfl ?_ | refine Mid.remN rfl rfl rfl rfl (by omega) rfl ?_ | refine Mid.lenS rfl rfl ?_ | refine Mid.iaS rfl rfl (by omega) rfl ?_ | refine Mid.iarrS rfl rfl (by omega) rfl ?_ | refine sToG rfl rfl rfl rfl ?_ | refine sFromG rfl rfl rfl rfl ?_ | refine lToG rfl rfl rfl rfl rfl ?_ | refine lF1 rfl rfl rfl rfl ?_ | refine p0 rfl ?_ | refine gr rfl ?_ | refine pu rfl ?_ | fail)
              refine Run.condT rfl rfl (by simp; omega) ?_
              repeat (first | refine fR rfl ?_ | refine fM rfl ?_ | refine aL rfl rfl rfl rfl rfl ?_ | refine aN rfl rfl rfl ?_ | refine a64 rfl rfl rfl ?_ | refine s64 rfl rfl rfl ?_ | refine lM rfl rfl rfl ?_ | refine sTo rfl rfl rfl ?_ | refine sFrom rfl rfl rfl ?_ | refine sSub rfl rfl rfl rfl ?_ | refine lTo rfl rfl rfl rfl ?_ | refine lFrom rfl rfl rfl rfl ?_ | refine lMG rfl rfl rfl rfl ?_ | refine aLG rfl rfl rfl rfl rfl rfl ?_ | refine aNG rfl rfl rfl rfl ?_ | refine a64G rfl rfl rfl rfl ?_ | refine s64G rfl rfl rfl rfl ?_ | refine Mid.quoN rfl rfl rfl rfl (by omega) (by omega) rfl ?_ | refine Mid.remN rfl rfl rfl rfl (by omega) rfl ?_ | refine Mid.lenS rfl rfl ?_ | refine Mid.iaS rfl rfl (by omega) rfl ?_ | refine Mid.iarrS rfl rfl (by omega) rfl ?_ | refine sToG rfl rfl rfl rfl ?_ | refine sFromG rfl rfl rfl rfl ?_ | refine lToG rfl rfl rfl rfl rfl ?_ | refine lF1 rfl rfl rfl rfl ?_ | refine p0 rfl ?_ | refine gr rfl ?_ | refine pu rfl ?_ | fail)
              refine Mid.elemMap rfl rfl rfl g1 rfl rfl ?_
              repeat (first | refine fR rfl ?_ | refine fM rfl ?_ | refine aL rfl rfl rfl rfl rfl ?_ | refine aN rfl rfl rfl ?_ | refine a64 rfl rfl rfl ?_ | refine s64 rfl rfl rfl ?_ | refine lM rfl rfl rfl ?_ | refine sTo rfl rfl rfl ?_ | refine sFrom rfl rfl rfl ?_ | refine sSub rfl rfl rfl rfl ?_ | refine lTo rfl rfl rfl rfl ?_ | refine lFrom rfl rfl rfl rfl ?_ | refine lMG rfl rfl rfl rfl ?_ | refine aLG rfl rfl rfl rfl rfl rfl ?_ | refine aNG rfl rfl rfl rfl ?_ | refine a64G rfl rfl rfl rfl ?_ | refine s64G rfl rfl rfl rfl ?_ | refine Mid.quoN rfl rfl rfl rfl (by omega) (by omega) rfl ?_ | refine Mid.remN rfl rfl rfl rfl (by omega) rfl ?_ | refine Mid.lenS rfl rfl ?_ | refine Mid.iaS rfl rfl (by omega) rfl ?_ | refine Mid.iarrS rfl rfl (by omega) rfl ?_ | refine sToG rfl rfl rfl rfl ?_ | refine sFromG rfl rfl rfl rfl ?_ | refine lToG rfl rfl rfl rfl rfl ?_ | refine lF1 rfl rfl rfl rfl ?_ | refine p0 rfl ?_ | refine gr rfl ?_ | refine pu rfl ?_ | fail)
              refine Mid.call (argV_ok H 56 x hal p.name (.inl rfl)) rfl rfl rfl rfl ?_
              repeat (first | refine fR rfl ?_ | refine fM rfl ?_ | refine aL rfl rfl rfl rfl rfl ?_ | refine aN rfl rfl rfl ?_ | refine a64 rfl rfl rfl ?_ | refine s64 rfl rfl rfl ?_ | refine lM rfl rfl rfl ?_ | refine sTo rfl rfl rfl ?_ | refine sFrom rfl rfl rfl ?_ | refine sSub rfl rfl rfl rfl ?_ | refine lTo rfl rfl rfl rfl ?_ | refine lFrom rfl rfl rfl rfl ?_ | refine lMG rfl rfl rfl rfl ?_ | refine aLG rfl rfl rfl rfl rfl rfl ?_ | refine aNG rfl rfl rfl rfl ?_ | refine a64G rfl rfl rfl rfl ?_ | refine s64G rfl rfl rfl rfl ?_ | refine Mid.quoN rfl rfl rfl rfl (by omega) (by omega) rfl ?_ | refine Mid.remN rfl rfl rfl rfl (by omega) rfl ?_ | refine Mid.lenS rfl rfl ?_ | refine Mid.iaS rfl rfl (by omega) rfl ?_ | refine Mid.iarrS rfl rfl (by omega) rfl ?_ | refine sToG rfl rfl rfl rfl ?_ | refine sFromG rfl rfl rfl rfl ?_ | refine lToG rfl rfl rfl rfl rfl ?_ | refine lF1 rfl rfl rfl rfl ?_ | refine p0 rfl ?_ | refine gr rfl ?_ | refine pu rfl ?_ | fail)
              refine Run.cond rfl rfl (fun hc => ?_) (fun hc => ?_)
              · rw [if_pos (by rw [hm, List.any_cons, show (!(argF p.name x.args).isSome && !p.may) = true from hc]; rfl)] at hR
                subst hR
                repeat (first | refine fR rfl ?_ | refine fM rfl ?_ | refine aL rfl rfl rfl rfl rfl ?_ | refine aN rfl rfl rfl ?_ | refine a64 rfl rfl rfl ?_ | refine s64 rfl rfl rfl ?_ | refine lM rfl rfl rfl ?_ | refine sTo rfl rfl rfl ?_ | refine sFrom rfl rfl rfl ?_ | refine sSub rfl rfl rfl rfl ?_ | refine lTo rfl rfl rfl rfl ?_ | refine lFrom rfl rfl rfl rfl ?_ | refine lMG rfl rfl rfl rfl ?_ | refine aLG rfl rfl rfl rfl rfl rfl ?_ | refine aNG rfl rfl rfl rfl ?_ | refine a64G rfl rfl rfl rfl ?_ | refine s64G rfl rfl rfl rfl ?_ | refine Mid.quoN rfl rfl rfl rfl (by omega) (by omega) rfl ?_ | refine Mid.remN rfl rfl rfl rfl (by omega) rfl ?_ | refine Mid.lenS rfl rfl ?_ | refine Mid.iaS rfl rfl (by omega) rfl ?_ | refine Mid.iarrS rfl rfl (by omega) rfl ?_ | refine sToG rfl rfl rfl rfl ?_ | refine sFromG rfl rfl rfl rfl ?_ | refine lToG rfl rfl rfl rfl rfl ?_ | refine lF1 rfl rfl rfl rfl ?_ | refine p0 rfl ?_ | refine gr rfl ?_ | refine pu rfl ?_ | fail)
                refine Run.fin rfl (EndOk.go ?_); exact .t rfl
              · repeat (first | refine fR rfl ?_ | refine fM rfl ?_ | refine aL rfl rfl rfl rfl rfl ?_ | refine aN rfl rfl rfl ?_ | refine a64 rfl rfl rfl ?_ | refine s64 rfl rfl rfl ?_ | refine lM rfl rfl rfl ?_ | refine sTo rfl rfl rfl ?_ | refine sFrom rfl rfl rfl ?_ | refine sSub rfl rfl rfl rfl ?_ | refine lTo rfl rfl rfl rfl ?_ | refine lFrom rfl rfl rfl rfl ?_ | refine lMG rfl rfl rfl rfl ?_ | refine aLG rfl rfl rfl rfl rfl rfl ?_ | refine aNG rfl rfl rfl rfl ?_ | refine a64G rfl rfl rfl rfl ?_ | refine s64G rfl rfl rfl rfl ?_ | refine Mid.quoN rfl rfl rfl rfl (by omega) (by omega) rfl ?_ | refine Mid.remN rfl rfl rfl rfl (by omega) rfl ?_ | refine Mid.lenS rfl rfl ?_ | refine Mid.iaS rfl rfl (by omega) rfl ?_ | refine Mid.iarrS rfl rfl (by omega) rfl ?_ | refine sToG rfl rfl rfl rfl ?_ | refine sFromG rfl rfl rfl rfl ?_ | refine lToG rfl rfl rfl rfl rfl ?_ | refine lF1 rfl rfl rfl rfl ?_ | refine p0 rfl ?_ | refine gr rfl ?_ | refine pu rfl ?_ | fail)
                exact rWeak 2 rfl (ih () (by rw [hm, List.any_cons, show (!(argF p.name x.args).isSome && !p.may) = false from hc]; rfl)) rfl rfl rfl
          · intro k y q _ g1 gi gd hinv ih
            have hy := hd.an y (List.mem_of_getElem? g1)
            have htk : x.args.take k ++ [y] = x.args.take (k + 1) := by rw [List.take_add_one, g1]; rfl
            have hav := argV_ok H 56 ⟨[], x.args.take k⟩ (by show (x.args.take k).length ≤ _; rw [List.length_take]; omega) y.name (.inl rfl)
            have hpo := param_ok H r hrl y.name
            repeat (first | refine fR rfl ?_ | refine fM rfl ?_ | refine aL rfl rfl rfl rfl rfl ?_ | refine aN rfl rfl rfl ?_ | refine a64 rfl rfl rfl ?_ | refine s64 rfl rfl rfl ?_ | refine lM rfl rfl rfl ?_ | refine sTo rfl rfl rfl ?_ | refine sFrom rfl rfl rfl ?_ | refine sSub rfl rfl rfl rfl ?_ | refine lTo rfl rfl rfl rfl ?_ | refine lFrom rfl rfl rfl rfl ?_ | refine lMG rfl rfl rfl rfl ?_ | refine aLG rfl rfl rfl rfl rfl rfl ?_ | refine aNG rfl rfl rfl rfl ?_ | refine a64G rfl rfl rfl rfl ?_ | refine s64G rfl rfl rfl rfl ?_ | refine Mid.quoN rfl rfl rfl rfl (by omega) (by omega) rfl ?_ | refine Mid.remN rfl rfl rfl rfl (by omega) rfl ?_ | refine Mid.lenS rfl rfl ?_ | refine Mid.iaS rfl rfl (by omega) rfl ?_ | refine Mid.iarrS rfl rfl (by omega) rfl ?_ | refine sToG rfl rfl rfl rfl ?_ | refine sFromG rfl rfl rfl rfl ?_ | refine lToG rfl rfl rfl rfl rfl ?_ | refine lF1 rfl rfl rfl rfl ?_ | refine p0 rfl ?_ | refine gr rfl ?_ | refine pu rfl ?_ | fail)
            refine Run.condT rfl rfl (by simp; omega) ?_
            repeat (first | refine fR rfl ?_ | refine fM rfl ?_ | refine aL rfl rfl rfl rfl rfl ?_ | refine aN rfl rfl rfl ?_ | refine a64 rfl rfl rfl ?_ | refine s64 rfl rfl rfl ?_ | refine lM rfl rfl rfl ?_ | refine sTo rfl rfl rfl ?_ | refine sFrom rfl rfl rfl ?_ | refine sSub rfl rfl rfl rfl ?_ | refine lTo rfl rfl rfl rfl ?_ | refine lFrom rfl rfl rfl rfl ?_ | refine lMG rfl rfl rfl rfl ?_ | refine aLG rfl rfl rfl rfl rfl rfl ?_ | refine aNG rfl rfl rfl rfl ?_ | refine a64G rfl rfl rfl rfl ?_ | refine s64G rfl rfl rfl rfl ?_ | refine Mid.quoN rfl rfl rfl rfl (by omega) (by omega) rfl ?_ | refine Mid.remN rfl rfl rfl rfl (by omega) rfl ?_ | refine Mid.lenS rfl rfl ?_ | refine Mid.iaS rfl rfl (by omega) rfl ?_ | refine Mid.iarrS rfl rfl (by omega) rfl ?_ | refine sToG rfl rfl rfl rfl ?_ | refine sFromG rfl rfl rfl rfl ?_ | refine lToG rfl rfl rfl rfl rfl ?_ | refine lF1 rfl rfl rfl rfl ?_ | refine p0 rfl ?_ | refine gr rfl ?_ | refine pu rfl ?_ | fail)
            refine Mid.elemMap rfl rfl rfl g1 rfl rfl ?_
            repeat (first | refine fR rfl ?_ | refine fM rfl ?_ | refine aL rfl rfl rfl rfl rfl ?_ | refine aN rfl rfl rfl ?_ | refine a64 rfl rfl rfl ?_ | refine s64 rfl rfl rfl ?_ | refine lM rfl rfl rfl ?_ | refine sTo rfl rfl rfl ?_ | refine sFrom rfl rfl rfl ?_ | refine sSub rfl rfl rfl rfl ?_ | refine lTo rfl rfl rfl rfl ?_ | refine lFrom rfl rfl rfl rfl ?_ | refine lMG rfl rfl rfl rfl ?_ | refine aLG rfl rfl rfl rfl rfl rfl ?_ | refine aNG rfl rfl rfl rfl ?_ | refine a64G rfl rfl rfl rfl ?_ | refine s64G rfl rfl rfl rfl ?_ | refine Mid.quoN rfl rfl rfl rfl (by omega) (by omega) rfl ?_ | refine Mid.remN rfl rfl rfl rfl (by omega) rfl ?_ | refine Mid.lenS rfl rfl ?_ | refine Mid.iaS rfl rfl (by omega) rfl ?_ | refine Mid.iarrS rfl rfl (by omega) rfl ?_ | refine sToG rfl rfl rfl rfl ?_ | refine sFromG rfl rfl rfl rfl ?_ | refine lToG rfl rfl rfl rfl rfl ?_ | refine lF1 rfl rfl rfl rfl ?_ | refine p0 rfl ?_ | refine gr rfl ?_ | refine pu rfl ?_ | fail)
            cases hf : findP y.name r.params with
            | none =>
              rw [hf] at hpo
              rw [if_pos (by rw [hinv, badA, hf]; rfl)] at hR
              subst hR
              refine Mid.call (hpo) rfl rfl rfl rfl ?_
              repeat (first | refine fR rfl ?_ | refine fM rfl ?_ | refine aL rfl rfl rfl rfl rfl ?_ | refine aN rfl rfl rfl ?_ | refine a64 rfl rfl rfl ?_ | refine s64 rfl rfl rfl ?_ | refine lM rfl rfl rfl ?_ | refine sTo rfl rfl rfl ?_ | refine sFrom rfl rfl rfl ?_ | refine sSub rfl rfl rfl rfl ?_ | refine lTo rfl rfl rfl rfl ?_ | refine lFrom rfl rfl rfl rfl ?_ | refine lMG rfl rfl rfl rfl ?_ | refine aLG rfl rfl rfl rfl rfl rfl ?_ | refine aNG rfl rfl rfl rfl ?_ | refine a64G rfl rfl rfl rfl ?_ | refine s64G rfl rfl rfl rfl ?_ | refine Mid.quoN rfl rfl rfl rfl (by omega) (by omega) rfl ?_ | refine Mid.remN rfl rfl rfl rfl (by omega) rfl ?_ | refine Mid.lenS rfl rfl ?_ | refine Mid.iaS rfl rfl (by omega) rfl ?_ | refine Mid.iarrS rfl rfl (by omega) rfl ?_ | refine sToG rfl rfl rfl rfl ?_ | refine sFromG rfl rfl rfl rfl ?_ | refine lToG rfl rfl rfl rfl rfl ?_ | refine lF1 rfl rfl rfl rfl ?_ | refine p0 rfl ?_ | refine gr rfl ?_ | refine pu rfl ?_ | fail)
              refine Run.condT rfl rfl rfl ?_
              repeat (first | refine fR rfl ?_ | refine fM rfl ?_ | refine aL rfl rfl rfl rfl rfl ?_ | refine aN rfl rfl rfl ?_ | refine a64 rfl rfl rfl ?_ | refine s64 rfl rfl rfl ?_ | refine lM rfl rfl rfl ?_ | refine sTo rfl rfl rfl ?_ | refine sFrom rfl rfl rfl ?_ | refine sSub rfl rfl rfl rfl ?_ | refine lTo rfl rfl rfl rfl ?_ | refine lFrom rfl rfl rfl rfl ?_ | refine lMG rfl rfl rfl rfl ?_ | refine aLG rfl rfl rfl rfl rfl rfl ?_ | refine aNG rfl rfl rfl rfl ?_ | refine a64G rfl rfl rfl rfl ?_ | refine s64G rfl rfl rfl rfl ?_ | refine Mid.quoN rfl rfl rfl rfl (by omega) (by omega) rfl ?_ | refine Mid.remN rfl rfl rfl rfl (by omega) rfl ?_ | refine Mid.lenS rfl rfl ?_ | refine Mid.iaS rfl rfl (by omega) rfl ?_ | refine Mid.iarrS rfl rfl (by omega) rfl ?_ | refine sToG rfl rfl rfl rfl ?_ | refine sFromG rfl rfl rfl rfl ?_ | refine lToG rfl rfl rfl rfl rfl ?_ | refine lF1 rfl rfl rfl rfl ?_ | refine p0 rfl ?_ | refine gr rfl ?_ | refine pu rfl ?_ | fail)
              refine Run.fin rfl (EndOk.go ?_); exact .t rfl
            | some p =>
              rw [hf] at hpo
              refine Mid.call (hpo) rfl rfl rfl rfl ?_
              repeat (first | refine fR rfl ?_ | refine fM rfl ?_ | refine aL rfl rfl rfl rfl rfl ?_ | refine aN rfl rfl rfl ?_ | refine a64 rfl rfl rfl ?_ | refine s64 rfl rfl rfl ?_ | refine lM rfl rfl rfl ?_ | refine sTo rfl rfl rfl ?_ | refine sFrom rfl rfl rfl ?_ | refine sSub rfl rfl rfl rfl ?_ | refine lTo rfl rfl rfl rfl ?_ | refine lFrom rfl rfl rfl rfl ?_ | refine lMG rfl rfl rfl rfl ?_ | refine aLG rfl rfl rfl rfl rfl rfl ?_ | refine aNG rfl rfl rfl rfl ?_ | refine a64G rfl rfl rfl rfl ?_ | refine s64G rfl rfl rfl rfl ?_ | refine Mid.quoN rfl rfl rfl rfl (by omega) (by omega) rfl ?_ | refine Mid.remN rfl rfl rfl rfl (by omega) rfl ?_ | refine Mid.lenS rfl rfl ?_ | refine Mid.iaS rfl rfl (by omega) rfl ?_ | refine Mid.iarrS rfl rfl (by omega) rfl ?_ | refine sToG rfl rfl rfl rfl ?_ | refine sFromG rfl rfl rfl rfl ?_ | refine lToG rfl rfl rfl rfl rfl ?_ | refine lF1 rfl rfl rfl rfl ?_ | refine p0 rfl ?_ | refine gr rfl ?_ | refine pu rfl ?_ | fail)
              refine Run.condF rfl rfl rfl ?_
              repeat (first | refine fR rfl ?_ | refine fM rfl ?_ | refine aL rfl rfl rfl rfl rfl ?_ | refine aN rfl rfl rfl ?_ | refine a64 rfl rfl rfl ?_ | refine s64 rfl rfl rfl ?_ | refine lM rfl rfl rfl ?_ | refine sTo rfl rfl rfl ?_ | refine sFrom rfl rfl rfl ?_ | refine sSub rfl rfl rfl rfl ?_ | refine lTo rfl rfl rfl rfl ?_ | refine lFrom rfl rfl rfl rfl ?_ | refine lMG rfl rfl rfl rfl ?_ | refine aLG rfl rfl rfl rfl rfl rfl ?_ | refine aNG rfl rfl rfl rfl ?_ | refine a64G rfl rfl rfl rfl ?_ | refine s64G rfl rfl rfl rfl ?_ | refine Mid.quoN rfl rfl rfl rfl (by omega) (by omega) rfl ?_ | refine Mid.remN rfl rfl rfl rfl (by omega) rfl ?_ | refine Mid.lenS rfl rfl ?_ | refine Mid.iaS rfl rfl (by omega) rfl ?_ | refine Mid.iarrS rfl rfl (by omega) rfl ?_ | refine sToG rfl rfl rfl rfl ?_ | refine sFromG rfl rfl rfl rfl ?_ | refine lToG rfl rfl rfl rfl rfl ?_ | refine lF1 rfl rfl rfl rfl ?_ | refine p0 rfl ?_ | refine gr rfl ?_ | refine pu rfl ?_ | fail)
              refine Mid.call (hav) rfl rfl rfl rfl ?_
              repeat (first | refine fR rfl ?_ | refine fM rfl ?_ | refine aL rfl rfl rfl rfl rfl ?_ | refine aN rfl rfl rfl ?_ | refine a64 rfl rfl rfl ?_ | refine s64 rfl rfl rfl ?_ | refine lM rfl rfl rfl ?_ | refine sTo rfl rfl rfl ?_ | refine sFrom rfl rfl rfl ?_ | refine sSub rfl rfl rfl rfl ?_ | refine lTo rfl rfl rfl rfl ?_ | refine lFrom rfl rfl rfl rfl ?_ | refine lMG rfl rfl rfl rfl ?_ | refine aLG rfl rfl rfl rfl rfl rfl ?_ | refine aNG rfl rfl rfl rfl ?_ | refine a64G rfl rfl rfl rfl ?_ | refine s64G rfl rfl rfl rfl ?_ | refine Mid.quoN rfl rfl rfl rfl (by omega) (by omega) rfl ?_ | refine Mid.remN rfl rfl rfl rfl (by omega) rfl ?_ | refine Mid.lenS rfl rfl ?_ | refine Mid.iaS rfl rfl (by omega) rfl ?_ | refine Mid.iarrS rfl rfl (by omega) rfl ?_ | refine sToG rfl rfl rfl rfl ?_ | refine sFromG rfl rfl rfl rfl ?_ | refine lToG rfl rfl rfl rfl rfl ?_ | refine lF1 rfl rfl rfl rfl ?_ | refine p0 rfl ?_ | refine gr rfl ?_ | refine pu rfl ?_ | fail)
              refine Run.cond rfl rfl (fun hc => ?_) (fun hc => ?_)
              · rw [if_pos (by rw [hinv, badA, hf, show (argF y.name (x.args.take k)).isSome = true from hc]; rfl)] at hR
                subst hR
                repeat (first | refine fR rfl ?_ | refine fM rfl ?_ | refine aL rfl rfl rfl rfl rfl ?_ | refine aN rfl rfl rfl ?_ | refine a64 rfl rfl rfl ?_ | refine s64 rfl rfl rfl ?_ | refine lM rfl rfl rfl ?_ | refine sTo rfl rfl rfl ?_ | refine sFrom rfl rfl rfl ?_ | refine sSub rfl rfl rfl rfl ?_ | refine lTo rfl rfl rfl rfl ?_ | refine lFrom rfl rfl rfl rfl ?_ | refine lMG rfl rfl rfl rfl ?_ | refine aLG rfl rfl rfl rfl rfl rfl ?_ | refine aNG rfl rfl rfl rfl ?_ | refine a64G rfl rfl rfl rfl ?_ | refine s64G rfl rfl rfl rfl ?_ | refine Mid.quoN rfl rfl rfl rfl (by omega) (by omega) rfl ?_ | refine Mid.remN rfl rfl rfl rfl (by omega) rfl ?_ | refine Mid.lenS rfl rfl ?_ | refine Mid.iaS rfl rfl (by omega) rfl ?_ | refine Mid.iarrS rfl rfl (by omega) rfl ?_ | refine sToG rfl rfl rfl rfl ?_ | refine sFromG rfl rfl rfl rfl ?_ | refine lToG rfl rfl rfl rfl rfl ?_ | refine lF1 rfl rfl rfl rfl ?_ | refine p0 rfl ?_ | refine gr rfl ?_ | refine pu rfl ?_ | fail)
                refine Run.fin rfl (EndOk.go ?_); exact .t rfl
              · repeat (first | refine fR rfl ?_ | refine fM rfl ?_ | refine aL rfl rfl rfl rfl rfl ?_ | refine aN rfl rfl rfl ?_ | refine a64 rfl rfl rfl ?_ | refine s64 rfl rfl rfl ?_ | refine lM rfl rfl rfl ?_ | refine sTo rfl rfl rfl ?_ | refine sFrom rfl rfl rfl ?_ | refine sSub rfl rfl rfl rfl ?_ | refine lTo rfl rfl rfl rfl ?_ | refine lFrom rfl rfl rfl rfl ?_ | refine lMG rfl rfl rfl rfl ?_ | refine aLG rfl rfl rfl rfl rfl rfl ?_ | refine aNG rfl rfl rfl rfl ?_ | refine a64G rfl rfl rfl rfl ?_ | refine s64G rfl rfl rfl rfl ?_ | refine Mid.quoN rfl rfl rfl rfl (by omega) (by omega) rfl ?_ | refine Mid.remN rfl rfl rfl rfl (by omega) rfl ?_ | refine Mid.lenS rfl rfl ?_ | refine Mid.iaS rfl rfl (by omega) rfl ?_ | refine Mid.iarrS rfl rfl (by omega) rfl ?_ | refine sToG rfl rfl rfl rfl ?_ | refine sFromG rfl rfl rfl rfl ?_ | refine lToG rfl rfl rfl rfl rfl ?_ | refine lF1 rfl rfl rfl rfl ?_ | refine p0 rfl ?_ | refine gr rfl ?_ | refine pu rfl ?_ | fail)
                exact rWeak 2 rfl (ih () (by rw [hinv, badA, hf, show (argF y.name (x.args.take k)).isSome = false from hc, ← htk]; rfl)) rfl rfl rfl
  exact hR _ rfl
/-- lists of uses whose texts are not long -/
structure DsOk (l : List Dir) : Prop where
  len : l.length ≤ 2199023255552
  all : ∀ d, d ∈ l → DOk d
theorem uses_ok (H : Pr23 P) (out : List Fault) (l : List Dir) (hd : DsOk l) (pl : Int) (at_ : Str) (hl : out.length + l.length ≤ 4398046511104) : FnOk P 52 [.own 0 2 (out.map Fault.enc), .t (.lst (l.map Dir.enc)), .t (.int .i64 pl), .t (.str at_)] ⟨[(0, .arr out.length)], 1⟩ { v := .own 0 2 ((out ++ usesF pl at_ [] l).map Fault.enc), ob := [(0, .arr (out ++ usesF pl at_ [] l).length)], rd := true } := by
  have hll := hd.len
  have hR : ∀ R, out ++ usesF pl at_ [] l = R → FnOk P 52 [.own 0 2 (out.map Fault.enc), .t (.lst (l.map Dir.enc)), .t (.int .i64 pl), .t (.str at_)] ⟨[(0, .arr out.length)], 1⟩ { v := .own 0 2 (R.map Fault.enc), ob := [(0, .arr R.length)], rd := true } := by
    intro R hR
    refine FnOk.run H.i52 H.mixed rfl rfl ?_
    repeat (first | refine fR rfl ?_ | refine fM rfl ?_ | refine aL rfl rfl rfl rfl rfl ?_ | refine aN rfl rfl rfl ?_ | refine a64 rfl rfl rfl ?_ | refine s64 rfl rfl rfl ?_ | refine lM rfl rfl rfl ?_ | refine sTo rfl rfl rfl ?_ | refine sFrom rfl rfl rfl ?_ | refine sSub rfl rfl rfl rfl ?_ | refine lTo rfl rfl rfl rfl ?_ | refine lFrom rfl rfl rfl rfl ?_ | refine lMG rfl rfl rfl rfl ?_ | refine aLG rfl rfl rfl rfl rfl rfl ?_ | refine aNG rfl rfl rfl rfl ?_ | refine a64G rfl rfl rfl rfl ?_ | refine s64G rfl rfl rfl rfl ?_ | refine Mid.quoN rfl rfl rfl rfl (by omega) (by omega) rfl ?_ | refine Mid.remN rfl rfl rfl rfl (by omega) rfl ?_ | refine Mid.lenS rfl rfl ?_ | refine Mid.iaS rfl rfl (by omega) rfl ?_ | refine Mid.iarrS rfl rfl (by omega) rfl ?_ | refine sToG rfl rfl rfl rfl ?_ | refine sFromG rfl rfl rfl rfl ?_ | refine lToG rfl rfl rfl rfl rfl ?_ | refine lF1 rfl rfl rfl rfl ?_ | refine p0 rfl ?_ | refine gr rfl ?_ | refine pu rfl ?_ | fail)
    refine rList l (fun i (B : List Fault) => { env := [(0, .own 0 2 (B.map Fault.enc)), (1, .t (.lst (l.map Dir.enc))), (2, .t (.int .i64 pl)), (3, .t (.str at_)), (12, .t (.int .i64 l.length)), (13, .t (.int .i64 i))], s := ⟨[(0, .arr B.length)], 1⟩ }) (fun r i B => B.length ≤ out.length + i ∧ B ++ usesF pl at_ (l.take i) r = R) 1 out rfl ⟨by simp, hR⟩ rfl rfl rfl ?_ ?_
    · rintro B ⟨_, hB⟩
      have hB' : B = R := by rw [← hB]; simp [usesF]
      subst hB'
      repeat (first | refine fR rfl ?_ | refine fM rfl ?_ | refine aL rfl rfl rfl rfl rfl ?_ | refine aN rfl rfl rfl ?_ | refine a64 rfl rfl rfl ?_ | refine s64 rfl rfl rfl ?_ | refine lM rfl rfl rfl ?_ | refine sTo rfl rfl rfl ?_ | refine sFrom rfl rfl rfl ?_ | refine sSub rfl rfl rfl rfl ?_ | refine lTo rfl rfl rfl rfl ?_ | refine lFrom rfl rfl rfl rfl ?_ | refine lMG rfl rfl rfl rfl ?_ | refine aLG rfl rfl rfl rfl rfl rfl ?_ | refine aNG rfl rfl rfl rfl ?_ | refine a64G rfl rfl rfl rfl ?_ | refine s64G rfl rfl rfl rfl ?_ | refine Mid.quoN rfl rfl rfl rfl (by omega) (by omega) rfl ?_ | refine Mid.remN rfl rfl rfl rfl (by omega) rfl ?_ | refine Mid.lenS rfl rfl ?_ | refine Mid.iaS rfl rfl (by omega) rfl ?_ | refine Mid.iarrS rfl rfl (by omega) rfl ?_ | refine sToG rfl rfl rfl rfl ?_ | refine sFromG rfl rfl rfl rfl ?_ | refine lToG rfl rfl rfl rfl rfl ?_ | refine lF1 rfl rfl rfl rfl ?_ | refine p0 rfl ?_ | refine gr rfl ?_ | refine pu rfl ?_ | fail)
      refine Run.condF rfl rfl (by simp) ?_
      repeat (first | refine fR rfl ?_ | refine fM rfl ?_ | refine aL rfl rfl rfl rfl rfl ?_ | refine aN rfl rfl rfl ?_ | refine a64 rfl rfl rfl ?_ | refine s64 rfl rfl rfl ?_ | refine lM rfl rfl rfl ?_ | refine sTo rfl rfl rfl ?_ | refine sFrom rfl rfl rfl ?_ | refine sSub rfl rfl rfl rfl ?_ | refine lTo rfl rfl rfl rfl ?_ | refine lFrom rfl rfl rfl rfl ?_ | refine lMG rfl rfl rfl rfl ?_ | refine aLG rfl rfl rfl rfl rfl rfl ?_ | refine aNG rfl rfl rfl rfl ?_ | refine a64G rfl rfl rfl rfl ?_ | refine s64G rfl rfl rfl rfl ?_ | refine Mid.quoN rfl rfl rfl rfl (by omega) (by omega) rfl ?_ | refine Mid.remN rfl rfl rfl rfl (by omega) rfl ?_ | refine Mid.lenS rfl rfl ?_ | refine Mid.iaS rfl rfl (by omega) rfl ?_ | refine Mid.iarrS rfl rfl (by omega) rfl ?_ | refine sToG rfl rfl rfl rfl ?_ | refine sFromG rfl rfl rfl rfl ?_ | refine lToG rfl rfl rfl rfl rfl ?_ | refine lF1 rfl rfl rfl rfl ?_ | refine p0 rfl ?_ | refine gr rfl ?_ | refine pu rfl ?_ | fail)
      refine Run.fin rfl (EndOk.chg rfl rfl ?_ ?_)
      · exact .le (.same rfl)
      · exact (by repeat' (first | exact trivial | exact LeX.t | exact LeX.top | exact LeX.nilOwn (Nat.le_of_ble_eq_true rfl) (Nat.le_of_ble_eq_true rfl) | exact LeX.ownT | exact LeX.nilT | exact LeX.same rfl | exact LeX.tEq (by simp) | exact LeX.ownEq (by simp) (Nat.le_of_ble_eq_true rfl) | exact LeX.tEq (by congr 1 <;> omega) | exact Or.inr ⟨Nat.le_of_ble_eq_true rfl, Nat.le_of_ble_eq_true rfl, rfl⟩ | refine Or.inl ⟨Nat.le_of_ble_eq_true rfl, _, rfl, ?_⟩ | refine LeO.cells ?_ | exact LeO.arr rfl | exact LeO.arr (by simp) | exact LeO.mE (by first | rfl | simp) (by first | exact Or.inl rfl | exact Or.inr rfl) | exact LeO.cE (by first | rfl | simp) | exact LeXs.cE (by first | rfl | simp) | refine LeO.map (by first | rfl | simp) ?_ (by first | exact Or.inl rfl | exact Or.inr rfl) | exact LeO.iter (by first | rfl | simp) (Nat.le_of_ble_eq_true rfl) | refine LeXs.cons ?_ ?_ | exact LeXs.nil | refine And.intro ?_ ?_))
    · rintro i x r B h1 hi hdr ⟨hBl, hB⟩ ih
      have hBl' : B.length ≤ out.length + i := hBl
      have hx := hd.all x (List.mem_of_getElem? h1)
      have htk : l.take i ++ [x] = l.take (i + 1) := by rw [List.take_add_one, h1]; rfl
      rw [usesF, htk] at hB
      repeat (first | refine fR rfl ?_ | refine fM rfl ?_ | refine aL rfl rfl rfl rfl rfl ?_ | refine aN rfl rfl rfl ?_ | refine a64 rfl rfl rfl ?_ | refine s64 rfl rfl rfl ?_ | refine lM rfl rfl rfl ?_ | refine sTo rfl rfl rfl ?_ | refine sFrom rfl rfl rfl ?_ | refine sSub rfl rfl rfl rfl ?_ | refine lTo rfl rfl rfl rfl ?_ | refine lFrom rfl rfl rfl rfl ?_ | refine lMG rfl rfl rfl rfl ?_ | refine aLG rfl rfl rfl rfl rfl rfl ?_ | refine aNG rfl rfl rfl rfl ?_ | refine a64G rfl rfl rfl rfl ?_ | refine s64G rfl rfl rfl rfl ?_ | refine Mid.quoN rfl rfl rfl rfl (by omega) (by omega) rfl ?_ | refine Mid.remN rfl rfl rfl rfl (by omega) rfl ?_ | refine Mid.lenS rfl rfl ?_ | refine Mid.iaS rfl rfl (by omega) rfl ?_ | refine Mid.iarrS rfl rfl (by omega) rfl ?_ | refine sToG rfl rfl rfl rfl ?_ | refine sFromG rfl rfl rfl rfl ?_ | refine lToG rfl rfl rfl rfl rfl ?_ | refine lF1 rfl rfl rfl rfl ?_ | refine p0 rfl ?_ | refine gr rfl ?_ | refine pu rfl ?_ | fail)
      refine Run.condT rfl rfl (by simp; omega) ?_
      repeat (first | refine fR rfl ?_ | refine fM rfl ?_ | refine aL rfl rfl rfl rfl rfl ?_ | refine aN rfl rfl rfl ?_ | refine a64 rfl rfl rfl ?_ | refine s64 rfl rfl rfl ?_ | refine lM rfl rfl rfl ?_ | refine sTo rfl rfl rfl ?_ | refine sFrom rfl rfl rfl ?_ | refine sSub rfl rfl rfl rfl ?_ | refine lTo rfl rfl rfl rfl ?_ | refine lFrom rfl rfl rfl rfl ?_ | refine lMG rfl rfl rfl rfl ?_ | refine aLG rfl rfl rfl rfl rfl rfl ?_ | refine aNG rfl rfl rfl rfl ?_ | refine a64G rfl rfl rfl rfl ?_ | refine s64G rfl rfl rfl rfl ?_ | refine Mid.quoN rfl rfl rfl rfl (by omega) (by omega) rfl ?_ | refine Mid.remN rfl rfl rfl rfl (by omega) rfl ?_ | refine Mid.lenS rfl rfl ?_ | refine Mid.iaS rfl rfl (by omega) rfl ?_ | refine Mid.iarrS rfl rfl (by omega) rfl ?_ | refine sToG rfl rfl rfl rfl ?_ | refine sFromG rfl rfl rfl rfl ?_ | refine lToG rfl rfl rfl rfl rfl ?_ | refine lF1 rfl rfl rfl rfl ?_ | refine p0 rfl ?_ | refine gr rfl ?_ | refine pu rfl ?_ | fail)
      refine Mid.call (judge_ok H l (by omega) i x h1 hx pl) rfl rfl rfl rfl ?_
      repeat (first | refine fR rfl ?_ | refine fM rfl ?_ | refine aL rfl rfl rfl rfl rfl ?_ | refine aN rfl rfl rfl ?_ | refine a64 rfl rfl rfl ?_ | refine s64 rfl rfl rfl ?_ | refine lM rfl rfl rfl ?_ | refine sTo rfl rfl rfl ?_ | refine sFrom rfl rfl rfl ?_ | refine sSub rfl rfl rfl rfl ?_ | refine lTo rfl rfl rfl rfl ?_ | refine lFrom rfl rfl rfl rfl ?_ | refine lMG rfl rfl rfl rfl ?_ | refine aLG rfl rfl rfl rfl rfl rfl ?_ | refine aNG rfl rfl rfl rfl ?_ | refine a64G rfl rfl rfl rfl ?_ | refine s64G rfl rfl rfl rfl ?_ | refine Mid.quoN rfl rfl rfl rfl (by omega) (by omega) rfl ?_ | refine Mid.remN rfl rfl rfl rfl (by omega) rfl ?_ | refine Mid.lenS rfl rfl ?_ | refine Mid.iaS rfl rfl (by omega) rfl ?_ | refine Mid.iarrS rfl rfl (by omega) rfl ?_ | refine sToG rfl rfl rfl rfl ?_ | refine sFromG rfl rfl rfl rfl ?_ | refine lToG rfl rfl rfl rfl rfl ?_ | refine lF1 rfl rfl rfl rfl ?_ | refine p0 rfl ?_ | refine gr rfl ?_ | refine pu rfl ?_ | fail)
      refine Run.cond rfl rfl (fun hc => ?_) (fun hc => ?_)
      · have hc' : ¬ judgeF (l.take i) x pl = 0 := by simpa using hc
        rw [if_neg hc'] at hB
        repeat (first | refine fR rfl ?_ | refine fM rfl ?_ | refine aL rfl rfl rfl rfl rfl ?_ | refine aN rfl rfl rfl ?_ | refine a64 rfl rfl rfl ?_ | refine s64 rfl rfl rfl ?_ | refine lM rfl rfl rfl ?_ | refine sTo rfl rfl rfl ?_ | refine sFrom rfl rfl rfl ?_ | refine sSub rfl rfl rfl rfl ?_ | refine lTo rfl rfl rfl rfl ?_ | refine lFrom rfl rfl rfl rfl ?_ | refine lMG rfl rfl rfl rfl ?_ | refine aLG rfl rfl rfl rfl rfl rfl ?_ | refine aNG rfl rfl rfl rfl ?_ | refine a64G rfl rfl rfl rfl ?_ | refine s64G rfl rfl rfl rfl ?_ | refine Mid.quoN rfl rfl rfl rfl (by omega) (by omega) rfl ?_ | refine Mid.remN rfl rfl rfl rfl (by omega) rfl ?_ | refine Mid.lenS rfl rfl ?_ | refine Mid.iaS rfl rfl (by omega) rfl ?_ | refine Mid.iarrS rfl rfl (by omega) rfl ?_ | refine sToG rfl rfl rfl rfl ?_ | refine sFromG rfl rfl rfl rfl ?_ | refine lToG rfl rfl rfl rfl rfl ?_ | refine lF1 rfl rfl rfl rfl ?_ | refine p0 rfl ?_ | refine gr rfl ?_ | refine pu rfl ?_ | fail)
        refine apM Fault.enc B [(⟨judgeF (l.take i) x pl, at_⟩ : Fault)] rfl rfl rfl rfl rfl ?_ (h1 := by first | omega | (simp; omega) | (simp; done)) (h2 := by first | omega | (simp; omega) | (simp; done))
        repeat (first | refine fR rfl ?_ | refine fM rfl ?_ | refine aL rfl rfl rfl rfl rfl ?_ | refine aN rfl rfl rfl ?_ | refine a64 rfl rfl rfl ?_ | refine s64 rfl rfl rfl ?_ | refine lM rfl rfl rfl ?_ | refine sTo rfl rfl rfl ?_ | refine sFrom rfl rfl rfl ?_ | refine sSub rfl rfl rfl rfl ?_ | refine lTo rfl rfl rfl rfl ?_ | refine lFrom rfl rfl rfl rfl ?_ | refine lMG rfl rfl rfl rfl ?_ | refine aLG rfl rfl rfl rfl rfl rfl ?_ | refine aNG rfl rfl rfl rfl ?_ | refine a64G rfl rfl rfl rfl ?_ | refine s64G rfl rfl rfl rfl ?_ | refine Mid.quoN rfl rfl rfl rfl (by omega) (by omega) rfl ?_ | refine Mid.remN rfl rfl rfl rfl (by omega) rfl ?_ | refine Mid.lenS rfl rfl ?_ | refine Mid.iaS rfl rfl (by omega) rfl ?_ | refine Mid.iarrS rfl rfl (by omega) rfl ?_ | refine sToG rfl rfl rfl rfl ?_ | refine sFromG rfl rfl rfl rfl ?_ | refine lToG rfl rfl rfl rfl rfl ?_ | refine lF1 rfl rfl rfl rfl ?_ | refine p0 rfl ?_ | refine gr rfl ?_ | refine pu rfl ?_ | fail)
        exact rWeak 1 rfl (ih (B ++ [⟨judgeF (l.take i) x pl, at_⟩]) ⟨by simp; omega, by rw [List.append_assoc]; exact hB⟩) rfl rfl rfl
      · have hc' : judgeF (l.take i) x pl = 0 := by simpa using hc
        rw [if_pos hc', List.nil_append] at hB
        repeat (first | refine fR rfl ?_ | refine fM rfl ?_ | refine aL rfl rfl rfl rfl rfl ?_ | refine aN rfl rfl rfl ?_ | refine a64 rfl rfl rfl ?_ | refine s64 rfl rfl rfl ?_ | refine lM rfl rfl rfl ?_ | refine sTo rfl rfl rfl ?_ | refine sFrom rfl rfl rfl ?_ | refine sSub rfl rfl rfl rfl ?_ | refine lTo rfl rfl rfl rfl ?_ | refine lFrom rfl rfl rfl rfl ?_ | refine lMG rfl rfl rfl rfl ?_ | refine aLG rfl rfl rfl rfl rfl rfl ?_ | refine aNG rfl rfl rfl rfl ?_ | refine a64G rfl rfl rfl rfl ?_ | refine s64G rfl rfl rfl rfl ?_ | refine Mid.quoN rfl rfl rfl rfl (by omega) (by omega) rfl ?_ | refine Mid.remN rfl rfl rfl rfl (by omega) rfl ?_ | refine Mid.lenS rfl rfl ?_ | refine Mid.iaS rfl rfl (by omega) rfl ?_ | refine Mid.iarrS rfl rfl (by omega) rfl ?_ | refine sToG rfl rfl rfl rfl ?_ | refine sFromG rfl rfl rfl rfl ?_ | refine lToG rfl rfl rfl rfl rfl ?_ | refine lF1 rfl rfl rfl rfl ?_ | refine p0 rfl ?_ | refine gr rfl ?_ | refine pu rfl ?_ | fail)
        exact rWeak 1 rfl (ih B ⟨by omega, hB⟩) rfl rfl rfl
  exact hR _ rfl
end Go.GB.C23


/-
  F23I: chapter 23's functions: violations of documents, both ways.
-/
namespace Go.GB.C23
open Go.GB Go.GB.C11
set_option linter.unusedSimpArgs false
set_option linter.unusedVariables false
set_option maxRecDepth 100000
set_option maxHeartbeats 4000000
variable {P : Program}
/-- documents whose texts are not long -/
structure InpD (a : Input) : Prop where
  nm : a.name.length ≤ 140737488355328
  d : DsOk a.dirs
structure FldD (f : Field) : Prop where
  nm : f.name.length ≤ 140737488355328
  d : DsOk f.dirs
  al : f.args.length ≤ 140737488355328
  a : ∀ x, x ∈ f.args → InpD x
structure MemD (m : Member) : Prop where
  nm : m.name.length ≤ 140737488355328
  d : DsOk m.dirs
structure DefD (t : Def) : Prop where
  nm : t.name.length ≤ 140737488355328
  d : DsOk t.dirs
  fl : t.fields.length ≤ 549755813888
  f : ∀ x, x ∈ t.fields → FldD x
  ml : t.members.length ≤ 549755813888
  m : ∀ x, x ∈ t.members → MemD x
  il : t.inputs.length ≤ 549755813888
  i : ∀ x, x ∈ t.inputs → InpD x
def plK (k : Int) : Int := if k = 2 then 8 else 4
theorem partL1 {t : Def} (h : t.kind = 1 ∨ t.kind = 2) : partL t = fldL t.name (plK t.kind) t.fields := by
  unfold partL plK
  rcases h with h | h <;> simp [h]
theorem partL3 {t : Def} (h : t.kind = 3) : partL t = memL t.name 0 t.members := by unfold partL; simp [h]
theorem partL4 {t : Def} (h : t.kind = 4) : partL t = memL t.name 16 t.members := by unfold partL; simp [h]
theorem partL5 {t : Def} (h : t.kind = 5) : partL t = inpL t.name t.inputs := by unfold partL; simp [h]
theorem partL0 {t : Def} (h1 : ¬ t.kind = 1) (h2 : ¬ t.kind = 2) (h3 : ¬ t.kind = 3) (h4 : ¬ t.kind = 4) (h5 : ¬ t.kind = 5) : partL t = [] := by unfold partL; simp [h1, h2, h3, h4, h5]
end Go.GB.C23


/-
  F23K: chapter 23's functions: the directives without those of subgraphs; values found.
-/
namespace Go.GB.C23
open Go.GB Go.GB.C11
set_option linter.unusedSimpArgs false
set_option linter.unusedVariables false
set_option maxRecDepth 100000
set_option maxHeartbeats 4000000
variable {P : Program}
/-- the value of an argument of the first of the uses by a name -/
def argD (n a : Str) : List Dir → Option Val
  | [] => none
  | d :: r => if d.name = n then argF a d.args else argD n a r
/-- those of all -/
def allD (n a : Str) (l : List Dir) : List Val := l.flatMap fun d => match argF a d.args with | some v => if d.name = n then [v] else [] | none => []
theorem allD_cons (n a : Str) (d : Dir) (r : List Dir) : allD n a (d :: r) = (match argF a d.args with | some v => if d.name = n then [v] else [] | none => []) ++ allD n a r := rfl
structure AOk (l : List Dir) : Prop where
  len : l.length ≤ 1099511627776
  all : ∀ d, d ∈ l → d.args.length ≤ 140737488355328
theorem arg_ok (H : Pr23 P) (l : List Dir) (hd : AOk l) (n a : Str) : FnOk P 23 [.t (.lst (l.map Dir.enc)), .t (.str n), .t (.str a)] ⟨[], 0⟩ { v := .tup [((argD n a l).getD Val.zero).v, .t (.bool (argD n a l).isSome)] } := by
  have hl := hd.len
  have hR : ∀ R, argD n a l = R → FnOk P 23 [.t (.lst (l.map Dir.enc)), .t (.str n), .t (.str a)] ⟨[], 0⟩ { v := .tup [(R.getD Val.zero).v, .t (.bool R.isSome)] } := by
    intro R hR
    refine FnOk.run H.i23 H.mixed rfl rfl ?_
    refine fR rfl ?_
    refine lM rfl rfl rfl ?_
    refine fM rfl ?_
    refine rList l (fun i (_ : Unit) => { env := [(1, .t (.str n)), (2, .t (.str a)), (6, .ptr 0 0), (10, .t (.lst (l.map Dir.enc))), (11, .t (.int .i64 l.length)), (12, .t (.int .i64 i))], s := ⟨[(0, .cells [.t (.int .i64 0), .t (.int .i64 0), .t (.str []), .nils, .nils])], 1⟩ }) (fun r i _ => argD n a r = R) 1 () rfl hR rfl rfl rfl ?_ ?_
    · rintro _ hB
      have hB' : R = none := by rw [← hB]; rfl
      subst hB'
      refine fR rfl ?_
      refine Run.condF rfl rfl (by simp) ?_
      refine fR rfl ?_
      refine Run.fin rfl (EndOk.go ?_); exact .tup2 (.agg (.cons (.t rfl) (.cons (.t rfl) (.cons (.t rfl) (.cons (.nil rfl) (.cons (.nil rfl) .nil)))))) (.t rfl)
    · rintro i x r _ h1 hi hdr hB ih
      have hx := hd.all x (List.mem_of_getElem? h1)
      refine fR rfl ?_
      refine Run.condT rfl rfl (by simp; omega) ?_
      refine fR rfl ?_
      refine Mid.elemMap rfl rfl rfl h1 rfl rfl ?_
      refine fM rfl ?_
      refine Run.cond rfl rfl (fun hc => ?_) (fun hc => ?_)
      · have hc' : x.name = n := by simpa using hc
        rw [argD, if_pos hc'] at hB
        subst hB
        refine fR rfl ?_
        refine Mid.call (argV_ok H 56 x hx a (.inl rfl)) rfl rfl rfl rfl ?_
        refine fM rfl ?_
        refine Run.fin rfl (EndOk.go ?_); exact .tup2 (.le (.same rfl)) (.t rfl)
      · have hc' : ¬ x.name = n := by simpa using hc
        rw [argD, if_neg hc'] at hB
        refine fR rfl ?_
        refine aL rfl rfl rfl rfl rfl ?_
        refine fM rfl ?_
        exact rWeak 1 rfl (ih () hB) rfl rfl rfl
  exact hR _ rfl
theorem rArg_ok (H : Pr23 P) (l : List Dir) (hd : AOk l) (n a : Str) : FnOk P 24 [.t (.lst (l.map Dir.enc)), .t (.str n), .t (.str a)] ⟨[], 0⟩ { v := .tup [((argD n a l).getD Val.zero).v, .t (.bool (argD n a l).isSome)] } := by
  have hl := hd.len
  have hR : ∀ R, argD n a l = R → FnOk P 24 [.t (.lst (l.map Dir.enc)), .t (.str n), .t (.str a)] ⟨[], 0⟩ { v := .tup [(R.getD Val.zero).v, .t (.bool R.isSome)] } := by
    intro R hR
    refine FnOk.run H.i24 H.mixed rfl rfl ?_
    refine fR rfl ?_
    refine rList l (fun i (_ : Unit) => { env := [(0, .t (.lst (l.map Dir.enc))), (1, .t (.str n)), (2, .t (.str a)), (6, .ptr 0 0), (8, .t (.int .i64 i))], s := ⟨[(0, .cells [.t (.int .i64 0), .t (.int .i64 0), .t (.str []), .nils, .nils])], 1⟩ }) (fun r i _ => argD n a r = R) 1 () rfl hR rfl rfl rfl ?_ ?_
    · rintro _ hB
      have hB' : R = none := by rw [← hB]; rfl
      subst hB'
      refine fR rfl ?_
      refine lM rfl rfl rfl ?_
      refine fM rfl ?_
      refine Run.condF rfl rfl (by simp) ?_
      refine fR rfl ?_
      refine Run.fin rfl (EndOk.go ?_); exact .tup2 (.agg (.cons (.t rfl) (.cons (.t rfl) (.cons (.t rfl) (.cons (.nil rfl) (.cons (.nil rfl) .nil)))))) (.t rfl)
    · rintro i x r _ h1 hi hdr hB ih
      have hx := hd.all x (List.mem_of_getElem? h1)
      refine fR rfl ?_
      refine lM rfl rfl rfl ?_
      refine fM rfl ?_
      refine Run.condT rfl rfl (by simp; omega) ?_
      refine fR rfl ?_
      refine Mid.elemMap rfl rfl rfl h1 rfl rfl ?_
      refine fM rfl ?_
      refine Run.cond rfl rfl (fun hc => ?_) (fun hc => ?_)
      · have hc' : x.name = n := by simpa using hc
        rw [argD, if_pos hc'] at hB
        subst hB
        refine fR rfl ?_
        refine Mid.elemMap rfl rfl rfl h1 rfl rfl ?_
        refine fM rfl ?_
        refine Mid.call (argV_ok H 57 x hx a (.inr rfl)) rfl rfl rfl rfl ?_
        refine fM rfl ?_
        refine Run.fin rfl (EndOk.go ?_); exact .tup2 (.le (.same rfl)) (.t rfl)
      · have hc' : ¬ x.name = n := by simpa using hc
        rw [argD, if_neg hc'] at hB
        refine fR rfl ?_
        refine aL rfl rfl rfl rfl rfl ?_
        refine fM rfl ?_
        exact rWeak 1 rfl (ih () hB) rfl rfl rfl
  exact hR _ rfl
theorem all_ok (H : Pr23 P) (l : List Dir) (hd : AOk l) (n a : Str) : FnOk P 28 [.t (.lst (l.map Dir.enc)), .t (.str n), .t (.str a)] ⟨[], 0⟩ { v := .t (.lst ((allD n a l).map Val.enc)) } := by
  have hl := hd.len
  have hR : ∀ R, allD n a l = R → FnOk P 28 [.t (.lst (l.map Dir.enc)), .t (.str n), .t (.str a)] ⟨[], 0⟩ { v := .t (.lst (R.map Val.enc)) } := by
    intro R hR
    refine FnOk.run H.i28 H.mixed rfl rfl ?_
    refine fR rfl ?_
    refine lM rfl rfl rfl ?_
    refine fM rfl ?_
    refine rList l (fun i (B : List Val) => { env := [(1, .t (.str n)), (2, .t (.str a)), (7, .own 0 5 (B.map Val.enc)), (12, .t (.lst (l.map Dir.enc))), (13, .t (.int .i64 l.length)), (14, .t (.int .i64 i))], s := ⟨[(0, .arr B.length)], 1⟩ }) (fun r i B => B.length ≤ i ∧ B ++ allD n a r = R) 0 [] rfl ⟨by simp, hR⟩ rfl rfl rfl ?_ ?_
    · rintro B ⟨_, hB⟩
      have hB' : B = R := by rw [← hB]; simp [allD]
      subst hB'
      refine fR rfl ?_
      refine Run.condF rfl rfl (by simp) ?_
      refine fR rfl ?_
      refine Run.fin rfl (EndOk.go ?_); exact .own rfl
    · rintro i x r B h1 hi hdr ⟨hBl, hB⟩ ih
      have hBl' : B.length ≤ i := hBl
      have hx := hd.all x (List.mem_of_getElem? h1)
      have hav := argV_ok H 56 x hx a (.inl rfl)
      refine fR rfl ?_
      refine Run.condT rfl rfl (by simp; omega) ?_
      refine fR rfl ?_
      refine Mid.elemMap rfl rfl rfl h1 rfl rfl ?_
      refine fM rfl ?_
      cases hf : argF a x.args with
      | none =>
        rw [hf] at hav
        rw [allD_cons, hf] at hB
        refine Mid.call (hav) rfl rfl rfl rfl ?_
        refine fM rfl ?_
        refine Run.condF rfl rfl (by simp) ?_
        refine fR rfl ?_
        refine aL rfl rfl rfl rfl rfl ?_
        refine fM rfl ?_
        exact rWeak 1 rfl (ih B ⟨by omega, hB⟩) rfl rfl rfl
      | some v =>
        rw [hf] at hav
        rw [allD_cons, hf] at hB
        refine Mid.call (hav) rfl rfl rfl rfl ?_
        refine fM rfl ?_
        refine Run.cond rfl rfl (fun hc => ?_) (fun hc => ?_)
        · have hc' : x.name = n := by simpa using hc
          simp only [if_pos hc'] at hB
          refine fR rfl ?_
          refine apM Val.enc B [v] rfl (congrArg (fun c => some (T.lst [c])) (Val.enc_eq v).symm) rfl rfl rfl ?_ (hl := fun x => (congrArg List.length (Val.enc_eq x)).trans rfl)
          refine fM rfl ?_
          refine aL rfl rfl rfl rfl rfl ?_
          refine fM rfl ?_
          exact rWeak 1 rfl (ih (B ++ [v]) ⟨by simp; omega, by rw [← hB]; simp⟩) rfl rfl rfl
        · have hc' : ¬ x.name = n := by simpa using hc
          simp only [if_neg hc'] at hB
          refine fR rfl ?_
          refine aL rfl rfl rfl rfl rfl ?_
          refine fM rfl ?_
          exact rWeak 1 rfl (ih B ⟨by omega, hB⟩) rfl rfl rfl
  exact hR _ rfl
theorem rAll_ok (H : Pr23 P) (l : List Dir) (hd : AOk l) (n a : Str) : FnOk P 29 [.t (.lst (l.map Dir.enc)), .t (.str n), .t (.str a)] ⟨[], 0⟩ { v := .t (.lst ((allD n a l).map Val.enc)) } := by
  have hl := hd.len
  have hR : ∀ R, allD n a l = R → FnOk P 29 [.t (.lst (l.map Dir.enc)), .t (.str n), .t (.str a)] ⟨[], 0⟩ { v := .t (.lst (R.map Val.enc)) } := by
    intro R hR
    refine FnOk.run H.i29 H.mixed rfl rfl ?_
    refine fR rfl ?_
    refine rList l (fun i (B : List Val) => { env := [(0, .t (.lst (l.map Dir.enc))), (1, .t (.str n)), (2, .t (.str a)), (7, .own 0 5 (B.map Val.enc)), (8, .t (.int .i64 i))], s := ⟨[(0, .arr B.length)], 1⟩ }) (fun r i B => B.length ≤ i ∧ B ++ allD n a r = R) 0 [] rfl ⟨by simp, hR⟩ rfl rfl rfl ?_ ?_
    · rintro B ⟨_, hB⟩
      have hB' : B = R := by rw [← hB]; simp [allD]
      subst hB'
      refine fR rfl ?_
      refine lM rfl rfl rfl ?_
      refine fM rfl ?_
      refine Run.condF rfl rfl (by simp) ?_
      refine fR rfl ?_
      refine Run.fin rfl (EndOk.go ?_); exact .own rfl
    · rintro i x r B h1 hi hdr ⟨hBl, hB⟩ ih
      have hBl' : B.length ≤ i := hBl
      have hx := hd.all x (List.mem_of_getElem? h1)
      have hav := argV_ok H 57 x hx a (.inr rfl)
      refine fR rfl ?_
      refine lM rfl rfl rfl ?_
      refine fM rfl ?_
      refine Run.condT rfl rfl (by simp; omega) ?_
      refine fR rfl ?_
      refine Mid.elemMap rfl rfl rfl h1 rfl rfl ?_
      refine fM rfl ?_
      cases hf : argF a x.args with
      | none =>
        rw [hf] at hav
        rw [allD_cons, hf] at hB
        refine Mid.call (hav) rfl rfl rfl rfl ?_
        refine fM rfl ?_
        refine Mid.elemMap rfl rfl rfl h1 rfl rfl ?_
        refine fM rfl ?_
        refine Run.condF rfl rfl (by simp) ?_
        refine fR rfl ?_
        refine aL rfl rfl rfl rfl rfl ?_
        refine fM rfl ?_
        exact rWeak 1 rfl (ih B ⟨by omega, hB⟩) rfl rfl rfl
      | some v =>
        rw [hf] at hav
        rw [allD_cons, hf] at hB
        refine Mid.call (hav) rfl rfl rfl rfl ?_
        refine fM rfl ?_
        refine Mid.elemMap rfl rfl rfl h1 rfl rfl ?_
        refine fM rfl ?_
        refine Run.cond rfl rfl (fun hc => ?_) (fun hc => ?_)
        · have hc' : x.name = n := by simpa using hc
          simp only [if_pos hc'] at hB
          refine fR rfl ?_
          refine apM Val.enc B [v] rfl (congrArg (fun c => some (T.lst [c])) (Val.enc_eq v).symm) rfl rfl rfl ?_ (hl := fun x => (congrArg List.length (Val.enc_eq x)).trans rfl)
          refine fM rfl ?_
          refine aL rfl rfl rfl rfl rfl ?_
          refine fM rfl ?_
          exact rWeak 1 rfl (ih (B ++ [v]) ⟨by simp; omega, by rw [← hB]; simp⟩) rfl rfl rfl
        · have hc' : ¬ x.name = n := by simpa using hc
          simp only [if_neg hc'] at hB
          refine fR rfl ?_
          refine aL rfl rfl rfl rfl rfl ?_
          refine fM rfl ?_
          exact rWeak 1 rfl (ih B ⟨by omega, hB⟩) rfl rfl rfl
  exact hR _ rfl
def SameC (P : Program) (v : Val) : Prop := FnOk P 26 [v.v, v.v] ⟨[], 0⟩ { v := .t (.bool true) }
theorem same_step (H : Pr23 P) (v : Val) (hv : v.Ok) (hrec : ∀ x, x ∈ v.items → SameC P x) : SameC P v := by
  have hil := hv.il
  have hkl := hv.kl
  unfold SameC
  refine FnOk.run H.i26 H.mixed rfl rfl ?_
  refine fR rfl ?_
  refine lMG rfl rfl rfl rfl ?_
  refine fM rfl ?_
  refine lMG rfl rfl rfl rfl ?_
  refine fM rfl ?_
  refine lMG rfl rfl rfl rfl ?_
  refine fM rfl ?_
  refine lMG rfl rfl rfl rfl ?_
  refine fM rfl ?_
  refine Run.condF rfl rfl (by simp) ?_
  refine fR rfl ?_
  refine rList v.keys (fun i (_ : Unit) => { env := [(2, .ptr 0 0), (3, .ptr 1 0), (5, .t (.int .i64 i))], s := ⟨[(0, (.cells [.t (.int .i64 v.kind), .t (.int .i64 v.int), .t (.str v.text), .t (.lst (v.items.map Val.enc)), .t (.lst (v.keys.map sE))])), (1, (.cells [.t (.int .i64 v.kind), .t (.int .i64 v.int), .t (.str v.text), .t (.lst (v.items.map Val.enc)), .t (.lst (v.keys.map sE))]))], 2⟩ }) (fun r i _ => True) 2 () rfl trivial rfl rfl rfl ?_ ?_
  · intro _ _
    refine fR rfl ?_
    refine lM rfl rfl rfl ?_
    refine fM rfl ?_
    refine Run.condF rfl rfl (by simp) ?_
    refine fR rfl ?_
    refine rList v.items (fun i (_ : Unit) => { env := [(2, .ptr 0 0), (3, .ptr 1 0), (6, .t (.int .i64 i))], s := ⟨[(0, (.cells [.t (.int .i64 v.kind), .t (.int .i64 v.int), .t (.str v.text), .t (.lst (v.items.map Val.enc)), .t (.lst (v.keys.map sE))])), (1, (.cells [.t (.int .i64 v.kind), .t (.int .i64 v.int), .t (.str v.text), .t (.lst (v.items.map Val.enc)), .t (.lst (v.keys.map sE))]))], 2⟩ }) (fun r i _ => True) 2 () rfl trivial rfl rfl rfl ?_ ?_
    · intro _ _
      refine fR rfl ?_
      refine lM rfl rfl rfl ?_
      refine fM rfl ?_
      refine Run.condF rfl rfl (by simp) ?_
      refine fR rfl ?_
      refine Run.fin rfl (EndOk.go ?_); exact .t rfl
    · intro i x r _ h1 hi hd _ ih
      have hc := hrec x (List.mem_of_getElem? h1)
      unfold SameC at hc
      refine fR rfl ?_
      refine lM rfl rfl rfl ?_
      refine fM rfl ?_
      refine Run.condT rfl rfl (by simp; omega) ?_
      refine fR rfl ?_
      refine Mid.elemMapC (Val.enc_eq x) rfl rfl rfl h1 rfl rfl ?_
      refine fM rfl ?_
      refine Mid.elemMapC (Val.enc_eq x) rfl rfl rfl h1 rfl rfl ?_
      refine fM rfl ?_
      refine Mid.call (hc) rfl rfl rfl rfl ?_
      refine fM rfl ?_
      refine Run.condF rfl rfl rfl ?_
      refine fR rfl ?_
      refine aL rfl rfl rfl rfl rfl ?_
      refine fM rfl ?_
      exact rWeak 2 rfl (ih () trivial) rfl rfl rfl
  · intro i x r _ h1 hi hd _ ih
    refine fR rfl ?_
    refine lM rfl rfl rfl ?_
    refine fM rfl ?_
    refine Run.condT rfl rfl (by simp; omega) ?_
    refine fR rfl ?_
    refine Mid.elemMap rfl rfl rfl h1 rfl rfl ?_
    refine fM rfl ?_
    refine Mid.elemMap rfl rfl rfl h1 rfl rfl ?_
    refine fM rfl ?_
    refine Run.condF rfl rfl (by simp) ?_
    refine fR rfl ?_
    refine aL rfl rfl rfl rfl rfl ?_
    refine fM rfl ?_
    exact rWeak 2 rfl (ih () trivial) rfl rfl rfl
theorem same_ok' (H : Pr23 P) : ∀ (k : Nat) (v : Val), SizeOf.sizeOf v ≤ k → v.Ok → SameC P v
  | 0, v, h, _ => by cases v; simp at h
  | k + 1, v, h, hv => same_step H v hv fun x hx => same_ok' H k x (by have := Val.size_items v hx; omega) (hv.it x hx)
theorem same23_ok (H : Pr23 P) (v : Val) (hv : v.Ok) : FnOk P 26 [v.v, v.v] ⟨[], 0⟩ { v := .t (.bool true) } := same_ok' H _ v (Nat.le_refl _) hv
theorem values_ok (H : Pr23 P) (l : List Val) (hl : l.length ≤ 1000) (hv : ∀ v, v ∈ l → v.Ok) : FnOk P 27 [.t (.lst (l.map Val.enc)), .t (.lst (l.map Val.enc))] ⟨[], 0⟩ { v := .t (.bool true) } := by
  refine FnOk.run H.i27 H.mixed rfl rfl ?_
  refine fR rfl ?_
  refine lM rfl rfl rfl ?_
  refine fM rfl ?_
  refine lM rfl rfl rfl ?_
  refine fM rfl ?_
  refine Run.condF rfl rfl (by simp) ?_
  refine fR rfl ?_
  refine rList l (fun i (_ : Unit) => { env := [(0, .t (.lst (l.map Val.enc))), (1, .t (.lst (l.map Val.enc))), (5, .t (.int .i64 i))], s := ⟨[], 0⟩ }) (fun r i _ => True) 0 () rfl trivial rfl rfl rfl ?_ ?_
  · intro _ _
    refine fR rfl ?_
    refine lM rfl rfl rfl ?_
    refine fM rfl ?_
    refine Run.condF rfl rfl (by simp) ?_
    refine fR rfl ?_
    refine Run.fin rfl (EndOk.go ?_); exact .t rfl
  · intro i x r _ h1 hi hd _ ih
    refine fR rfl ?_
    refine lM rfl rfl rfl ?_
    refine fM rfl ?_
    refine Run.condT rfl rfl (by simp; omega) ?_
    refine fR rfl ?_
    refine Mid.elemMapC (Val.enc_eq x) rfl rfl rfl h1 rfl rfl ?_
    refine fM rfl ?_
    refine Mid.elemMapC (Val.enc_eq x) rfl rfl rfl h1 rfl rfl ?_
    refine fM rfl ?_
    refine Mid.call (same23_ok H x (hv x (List.mem_of_getElem? h1))) rfl rfl rfl rfl ?_
    refine fM rfl ?_
    refine Run.condF rfl rfl rfl ?_
    refine fR rfl ?_
    refine aL rfl rfl rfl rfl rfl ?_
    refine fM rfl ?_
    exact rWeak 0 rfl (ih () trivial) rfl rfl rfl
end Go.GB.C23


/-
  F23J: chapter 23's functions: the program's check of directives.
-/
namespace Go.GB.C23
open Go.GB Go.GB.C11
set_option linter.unusedSimpArgs false
set_option linter.unusedVariables false
set_option maxRecDepth 100000
set_option maxHeartbeats 4000000
variable {P : Program}

theorem chk_ok (H : Pr23 P) (ds : List Def) (hdl : ds.length ≤ 140737488355328) (hD : ∀ t, t ∈ ds → DefD t) (hl : (chkD ds).length ≤ 2199023255552) : FnOk P 17 [docV ds] ⟨[], 0⟩ { v := .t (.lst ((chkD ds).map Fault.enc)) } := by
  have hR : ∀ R, chkD ds = R → R.length ≤ 2199023255552 → FnOk P 17 [docV ds] ⟨[], 0⟩ { v := .t (.lst (R.map Fault.enc)) } := by
    intro R hR hl
    refine FnOk.run H.i17 H.mixed rfl rfl ?_
    refine fR rfl ?_
    refine lM rfl rfl rfl ?_
    refine fM rfl ?_
    refine rList ds (fun i (B : List Fault) => { env := [(3, .own 1 2 (B.map Fault.enc)), (18, .t (.lst (ds.map Def.enc))), (19, .t (.int .i64 ds.length)), (20, .t (.int .i64 i))], s := ⟨[(1, .arr B.length)], 2⟩ }) (fun r i B => B ++ chkD r = R) 1 [] rfl hR rfl rfl rfl ?_ ?_
    · rintro B hB
      have hB' : B = R := by rw [← hB]; simp [chkD]
      subst hB'
      refine fR rfl ?_
      refine Run.condF rfl rfl (by simp) ?_
      refine fR rfl ?_
      refine Run.fin rfl (EndOk.go ?_); exact .own rfl
    · rintro i t r B h1 hi hdr hB ih
      have ht := hD t (List.mem_of_getElem? h1)
      have hnm := ht.nm
      have hdd := ht.d.len
      have hlen := congrArg List.length hB
      simp only [chkD, defL, List.length_append] at hlen
      have hB2 : (B ++ usesF (ownP t.kind) t.name [] t.dirs) ++ partL t ++ chkD r = R := by rw [← hB]; simp [chkD, defL]
      refine fR rfl ?_
      refine Run.condT rfl rfl (by simp; omega) ?_
      refine fR rfl ?_
      refine Mid.elemMap rfl rfl rfl h1 rfl rfl ?_
      refine fM rfl ?_
      by_cases k1 : t.kind = 1
      · have ho : ownP t.kind = 1 := by unfold ownP; rw [if_pos k1]
        rw [ho] at hB2 hlen
        rw [partL1 (.inl k1), plK, if_neg (by omega)] at hB2 hlen
        refine Run.condT rfl rfl (by simp [k1]) ?_
        refine fR rfl ?_
        refine Mid.callO [1] (uses_ok H B t.dirs ht.d 1 t.name (by omega)) rfl rfl rfl rfl (by simp [stoBd]; simp [AObj.bd]) (by repeat' (first | exact trivial | exact rfl | refine And.intro ?_ ?_ | exact (congrArg some (AObj.ren_mE _ _ _ _ _ _)).symm | exact (congrArg some (AObj.ren_cE _ _ _)).symm)) rfl rfl (ob' := [(1, .arr (B ++ usesF 1 t.name [] t.dirs).length)]) (rfl) rfl rfl ?_
        refine fM rfl ?_
        refine Run.condT rfl rfl (by simp [k1]) ?_
        refine Run.condT rfl rfl (by simp [k1]) ?_
        have hfl := ht.fl
        refine fR rfl ?_
        refine lM rfl rfl rfl ?_
        refine fM rfl ?_
        refine rList t.fields (fun j (C : List Fault) => { env := [(3, .own 1 2 (C.map Fault.enc)), (5, .ptr 2 0), (7, .t (.int .i64 4)), (18, .t (.lst (ds.map Def.enc))), (19, .t (.int .i64 ds.length)), (20, .t (.int .i64 i)), (45, .t (.lst (t.fields.map Field.enc))), (46, .t (.int .i64 t.fields.length)), (47, .t (.int .i64 j))], s := ⟨[(1, .arr C.length), (2, (.cells [.t (.int .i64 t.kind), .t (.str t.name), .t (.lst (t.implements.map sE)), .t (.lst (t.dirs.map Dir.enc)), .t (.lst (t.fields.map Field.enc)), .t (.lst (t.members.map Member.enc)), .t (.lst (t.inputs.map Input.enc))]))], 3⟩ }) (fun r2 j C => C ++ (fldL t.name 4 r2 ++ chkD r) = R) 3 (B ++ usesF 1 t.name [] t.dirs) rfl (by rw [← hB2]; simp) rfl rfl rfl ?_ ?_
        · rintro C hC
          refine fR rfl ?_
          refine Run.condF rfl rfl (by simp) ?_
          refine fR rfl ?_
          refine aL rfl rfl rfl rfl rfl ?_
          refine fM rfl ?_
          exact rWeak 2 rfl (ih C (by rw [← hC]; simp [fldL])) rfl rfl rfl
        · rintro j x r2 C h2 hj hjd hC ih2
          have hx := ht.f x (List.mem_of_getElem? h2)
          have hxn := hx.nm
          have hxd := hx.d.len
          have hal := hx.al
          have hlen2 := congrArg List.length hC
          simp only [fldL, List.length_append] at hlen2
          refine fR rfl ?_
          refine Run.condT rfl rfl (by simp; omega) ?_
          refine fR rfl ?_
          refine Mid.elemMap rfl rfl rfl h2 rfl rfl ?_
          refine fM rfl ?_
          refine pu rfl ?_
          refine fM rfl ?_
          refine pu rfl ?_
          refine fM rfl ?_
          refine Mid.callO [1] (uses_ok H C x.dirs hx.d 4 (t.name ++ [46] ++ x.name) (by omega)) rfl rfl rfl rfl (by simp [stoBd]; simp [AObj.bd]) (by repeat' (first | exact trivial | exact rfl | refine And.intro ?_ ?_ | exact (congrArg some (AObj.ren_mE _ _ _ _ _ _)).symm | exact (congrArg some (AObj.ren_cE _ _ _)).symm)) rfl rfl (ob' := [(1, .arr (C ++ usesF 4 (t.name ++ [46] ++ x.name) [] x.dirs).length)]) (rfl) rfl rfl ?_
          refine fM rfl ?_
          refine lM rfl rfl rfl ?_
          refine fM rfl ?_
          refine rList x.args (fun m (D : List Fault) => { env := [(3, .own 1 2 (D.map Fault.enc)), (5, .ptr 2 0), (7, .t (.int .i64 4)), (10, .t (.str (t.name ++ [46] ++ x.name))), (18, .t (.lst (ds.map Def.enc))), (19, .t (.int .i64 ds.length)), (20, .t (.int .i64 i)), (45, .t (.lst (t.fields.map Field.enc))), (46, .t (.int .i64 t.fields.length)), (47, .t (.int .i64 j)), (64, .t (.lst (x.args.map Input.enc))), (65, .t (.int .i64 x.args.length)), (66, .t (.int .i64 m))], s := ⟨[(1, .arr D.length), (2, (.cells [.t (.int .i64 t.kind), .t (.str t.name), .t (.lst (t.implements.map sE)), .t (.lst (t.dirs.map Dir.enc)), .t (.lst (t.fields.map Field.enc)), .t (.lst (t.members.map Member.enc)), .t (.lst (t.inputs.map Input.enc))]))], 4⟩ }) (fun r3 m D => D ++ (argL (t.name ++ [46] ++ x.name) r3 ++ (fldL t.name 4 r2 ++ chkD r)) = R) 4 (C ++ usesF 4 (t.name ++ [46] ++ x.name) [] x.dirs) rfl (by rw [← hC]; simp [fldL]) rfl rfl rfl ?_ ?_
          · rintro D hD2
            refine fR rfl ?_
            refine Run.condF rfl rfl (by simp) ?_
            refine fR rfl ?_
            refine aL rfl rfl rfl rfl rfl ?_
            refine fM rfl ?_
            exact rWeak 3 rfl (ih2 D (by rw [← hD2]; simp [argL])) rfl rfl rfl
          · rintro m a r3 D h3 hm hmd hD2 ih3
            have ha := hx.a a (List.mem_of_getElem? h3)
            have han := ha.nm
            have had := ha.d.len
            have hlen3 := congrArg List.length hD2
            simp only [argL, List.length_append] at hlen3
            refine fR rfl ?_
            refine Run.condT rfl rfl (by simp; omega) ?_
            refine fR rfl ?_
            refine Mid.elemMap rfl rfl rfl h3 rfl rfl ?_
            refine fM rfl ?_
            refine pu rfl ?_
            refine fM rfl ?_
            refine pu rfl ?_
            refine pu rfl ?_
            refine Mid.callO [1] (uses_ok H D a.dirs ha.d 0 (t.name ++ [46] ++ x.name ++ [40] ++ a.name ++ [41]) (by omega)) rfl rfl rfl rfl (by simp [stoBd]; simp [AObj.bd]) (by repeat' (first | exact trivial | exact rfl | refine And.intro ?_ ?_ | exact (congrArg some (AObj.ren_mE _ _ _ _ _ _)).symm | exact (congrArg some (AObj.ren_cE _ _ _)).symm)) rfl rfl (ob' := [(1, .arr (D ++ usesF 0 (t.name ++ [46] ++ x.name ++ [40] ++ a.name ++ [41]) [] a.dirs).length)]) (rfl) rfl rfl ?_
            refine fM rfl ?_
            refine aL rfl rfl rfl rfl rfl ?_
            refine fM rfl ?_
            exact rWeak 4 rfl (ih3 (D ++ usesF 0 (t.name ++ [46] ++ x.name ++ [40] ++ a.name ++ [41]) [] a.dirs) (by rw [← hD2]; simp [argL])) rfl rfl rfl
      · have ho : ownP t.kind = 2 := by unfold ownP; rw [if_neg k1]
        rw [ho] at hB2 hlen
        refine Run.condF rfl rfl (by simp [k1]) ?_
        refine fR rfl ?_
        by_cases k2 : t.kind = 2
        · rw [partL1 (.inr k2), plK, if_pos k2] at hB2 hlen
          refine Run.condT rfl rfl (by simp [k2]) ?_
          refine fR rfl ?_
          refine Mid.callO [1] (uses_ok H B t.dirs ht.d 2 t.name (by omega)) rfl rfl rfl rfl (by simp [stoBd]; simp [AObj.bd]) (by repeat' (first | exact trivial | exact rfl | refine And.intro ?_ ?_ | exact (congrArg some (AObj.ren_mE _ _ _ _ _ _)).symm | exact (congrArg some (AObj.ren_cE _ _ _)).symm)) rfl rfl (ob' := [(1, .arr (B ++ usesF 2 t.name [] t.dirs).length)]) (rfl) rfl rfl ?_
          refine fM rfl ?_
          refine Run.condF rfl rfl (by simp [k1]) ?_
          refine fR rfl ?_
          refine Run.condT rfl rfl (by simp [k2]) ?_
          have hfl := ht.fl
          refine fR rfl ?_
          refine lM rfl rfl rfl ?_
          refine fM rfl ?_
          refine rList t.fields (fun j (C : List Fault) => { env := [(3, .own 1 2 (C.map Fault.enc)), (5, .ptr 2 0), (7, .t (.int .i64 8)), (18, .t (.lst (ds.map Def.enc))), (19, .t (.int .i64 ds.length)), (20, .t (.int .i64 i)), (45, .t (.lst (t.fields.map Field.enc))), (46, .t (.int .i64 t.fields.length)), (47, .t (.int .i64 j))], s := ⟨[(1, .arr C.length), (2, (.cells [.t (.int .i64 t.kind), .t (.str t.name), .t (.lst (t.implements.map sE)), .t (.lst (t.dirs.map Dir.enc)), .t (.lst (t.fields.map Field.enc)), .t (.lst (t.members.map Member.enc)), .t (.lst (t.inputs.map Input.enc))]))], 3⟩ }) (fun r2 j C => C ++ (fldL t.name 8 r2 ++ chkD r) = R) 3 (B ++ usesF 2 t.name [] t.dirs) rfl (by rw [← hB2]; simp) rfl rfl rfl ?_ ?_
          · rintro C hC
            refine fR rfl ?_
            refine Run.condF rfl rfl (by simp) ?_
            refine fR rfl ?_
            refine aL rfl rfl rfl rfl rfl ?_
            refine fM rfl ?_
            exact rWeak 2 rfl (ih C (by rw [← hC]; simp [fldL])) rfl rfl rfl
          · rintro j x r2 C h2 hj hjd hC ih2
            have hx := ht.f x (List.mem_of_getElem? h2)
            have hxn := hx.nm
            have hxd := hx.d.len
            have hal := hx.al
            have hlen2 := congrArg List.length hC
            simp only [fldL, List.length_append] at hlen2
            refine fR rfl ?_
            refine Run.condT rfl rfl (by simp; omega) ?_
            refine fR rfl ?_
            refine Mid.elemMap rfl rfl rfl h2 rfl rfl ?_
            refine fM rfl ?_
            refine pu rfl ?_
            refine fM rfl ?_
            refine pu rfl ?_
            refine fM rfl ?_
            refine Mid.callO [1] (uses_ok H C x.dirs hx.d 8 (t.name ++ [46] ++ x.name) (by omega)) rfl rfl rfl rfl (by simp [stoBd]; simp [AObj.bd]) (by repeat' (first | exact trivial | exact rfl | refine And.intro ?_ ?_ | exact (congrArg some (AObj.ren_mE _ _ _ _ _ _)).symm | exact (congrArg some (AObj.ren_cE _ _ _)).symm)) rfl rfl (ob' := [(1, .arr (C ++ usesF 8 (t.name ++ [46] ++ x.name) [] x.dirs).length)]) (rfl) rfl rfl ?_
            refine fM rfl ?_
            refine lM rfl rfl rfl ?_
            refine fM rfl ?_
            refine rList x.args (fun m (D : List Fault) => { env := [(3, .own 1 2 (D.map Fault.enc)), (5, .ptr 2 0), (7, .t (.int .i64 8)), (10, .t (.str (t.name ++ [46] ++ x.name))), (18, .t (.lst (ds.map Def.enc))), (19, .t (.int .i64 ds.length)), (20, .t (.int .i64 i)), (45, .t (.lst (t.fields.map Field.enc))), (46, .t (.int .i64 t.fields.length)), (47, .t (.int .i64 j)), (64, .t (.lst (x.args.map Input.enc))), (65, .t (.int .i64 x.args.length)), (66, .t (.int .i64 m))], s := ⟨[(1, .arr D.length), (2, (.cells [.t (.int .i64 t.kind), .t (.str t.name), .t (.lst (t.implements.map sE)), .t (.lst (t.dirs.map Dir.enc)), .t (.lst (t.fields.map Field.enc)), .t (.lst (t.members.map Member.enc)), .t (.lst (t.inputs.map Input.enc))]))], 4⟩ }) (fun r3 m D => D ++ (argL (t.name ++ [46] ++ x.name) r3 ++ (fldL t.name 8 r2 ++ chkD r)) = R) 4 (C ++ usesF 8 (t.name ++ [46] ++ x.name) [] x.dirs) rfl (by rw [← hC]; simp [fldL]) rfl rfl rfl ?_ ?_
            · rintro D hD2
              refine fR rfl ?_
              refine Run.condF rfl rfl (by simp) ?_
              refine fR rfl ?_
              refine aL rfl rfl rfl rfl rfl ?_
              refine fM rfl ?_
              exact rWeak 3 rfl (ih2 D (by rw [← hD2]; simp [argL])) rfl rfl rfl
            · rintro m a r3 D h3 hm hmd hD2 ih3
              have ha := hx.a a (List.mem_of_getElem? h3)
              have han := ha.nm
              have had := ha.d.len
              have hlen3 := congrArg List.length hD2
              simp only [argL, List.length_append] at hlen3
              refine fR rfl ?_
              refine Run.condT rfl rfl (by simp; omega) ?_
              refine fR rfl ?_
              refine Mid.elemMap rfl rfl rfl h3 rfl rfl ?_
              refine fM rfl ?_
              refine pu rfl ?_
              refine fM rfl ?_
              refine pu rfl ?_
              refine pu rfl ?_
              refine Mid.callO [1] (uses_ok H D a.dirs ha.d 0 (t.name ++ [46] ++ x.name ++ [40] ++ a.name ++ [41]) (by omega)) rfl rfl rfl rfl (by simp [stoBd]; simp [AObj.bd]) (by repeat' (first | exact trivial | exact rfl | refine And.intro ?_ ?_ | exact (congrArg some (AObj.ren_mE _ _ _ _ _ _)).symm | exact (congrArg some (AObj.ren_cE _ _ _)).symm)) rfl rfl (ob' := [(1, .arr (D ++ usesF 0 (t.name ++ [46] ++ x.name ++ [40] ++ a.name ++ [41]) [] a.dirs).length)]) (rfl) rfl rfl ?_
              refine fM rfl ?_
              refine aL rfl rfl rfl rfl rfl ?_
              refine fM rfl ?_
              exact rWeak 4 rfl (ih3 (D ++ usesF 0 (t.name ++ [46] ++ x.name ++ [40] ++ a.name ++ [41]) [] a.dirs) (by rw [← hD2]; simp [argL])) rfl rfl rfl
        · refine Run.condF rfl rfl (by simp [k2]) ?_
          refine fR rfl ?_
          by_cases k4 : t.kind = 4
          · rw [partL4 k4] at hB2 hlen
            refine Run.condT rfl rfl (by simp [k4]) ?_
            refine fR rfl ?_
            refine Mid.callO [1] (uses_ok H B t.dirs ht.d 2 t.name (by omega)) rfl rfl rfl rfl (by simp [stoBd]; simp [AObj.bd]) (by repeat' (first | exact trivial | exact rfl | refine And.intro ?_ ?_ | exact (congrArg some (AObj.ren_mE _ _ _ _ _ _)).symm | exact (congrArg some (AObj.ren_cE _ _ _)).symm)) rfl rfl (ob' := [(1, .arr (B ++ usesF 2 t.name [] t.dirs).length)]) (rfl) rfl rfl ?_
            refine fM rfl ?_
            refine Run.condF rfl rfl (by simp [k1]) ?_
            refine fR rfl ?_
            refine Run.condF rfl rfl (by simp [k2]) ?_
            refine fR rfl ?_
            refine Run.condF rfl rfl (by simp [k4]) ?_
            refine fR rfl ?_
            refine Run.condT rfl rfl (by simp [k4]) ?_
            have hml := ht.ml
            refine fR rfl ?_
            refine lM rfl rfl rfl ?_
            refine fM rfl ?_
            refine rList t.members (fun j (C : List Fault) => { env := [(3, .own 1 2 (C.map Fault.enc)), (5, .ptr 2 0), (7, .t (.int .i64 16)), (18, .t (.lst (ds.map Def.enc))), (19, .t (.int .i64 ds.length)), (20, .t (.int .i64 i)), (86, .t (.lst (t.members.map Member.enc))), (87, .t (.int .i64 t.members.length)), (88, .t (.int .i64 j))], s := ⟨[(1, .arr C.length), (2, (.cells [.t (.int .i64 t.kind), .t (.str t.name), .t (.lst (t.implements.map sE)), .t (.lst (t.dirs.map Dir.enc)), .t (.lst (t.fields.map Field.enc)), .t (.lst (t.members.map Member.enc)), .t (.lst (t.inputs.map Input.enc))]))], 3⟩ }) (fun r2 j C => C ++ (memL t.name 16 r2 ++ chkD r) = R) 3 (B ++ usesF 2 t.name [] t.dirs) rfl (by rw [← hB2]; simp) rfl rfl rfl ?_ ?_
            · rintro C hC
              refine fR rfl ?_
              refine Run.condF rfl rfl (by simp) ?_
              refine fR rfl ?_
              refine aL rfl rfl rfl rfl rfl ?_
              refine fM rfl ?_
              exact rWeak 2 rfl (ih C (by rw [← hC]; simp [memL])) rfl rfl rfl
            · rintro j x r2 C h2 hj hjd hC ih2
              have hx := ht.m x (List.mem_of_getElem? h2)
              have hxn := hx.nm
              have hxd := hx.d.len
              have hlen2 := congrArg List.length hC
              simp only [memL, List.length_append] at hlen2
              refine fR rfl ?_
              refine Run.condT rfl rfl (by simp; omega) ?_
              refine fR rfl ?_
              refine Mid.elemMap rfl rfl rfl h2 rfl rfl ?_
              refine fM rfl ?_
              refine pu rfl ?_
              refine fM rfl ?_
              refine pu rfl ?_
              refine Mid.callO [1] (uses_ok H C x.dirs hx.d 16 (t.name ++ [46] ++ x.name) (by omega)) rfl rfl rfl rfl (by simp [stoBd]; simp [AObj.bd]) (by repeat' (first | exact trivial | exact rfl | refine And.intro ?_ ?_ | exact (congrArg some (AObj.ren_mE _ _ _ _ _ _)).symm | exact (congrArg some (AObj.ren_cE _ _ _)).symm)) rfl rfl (ob' := [(1, .arr (C ++ usesF 16 (t.name ++ [46] ++ x.name) [] x.dirs).length)]) (rfl) rfl rfl ?_
              refine fM rfl ?_
              refine aL rfl rfl rfl rfl rfl ?_
              refine fM rfl ?_
              exact rWeak 3 rfl (ih2 (C ++ usesF 16 (t.name ++ [46] ++ x.name) [] x.dirs) (by rw [← hC]; simp [memL])) rfl rfl rfl
          · refine Run.condF rfl rfl (by simp [k4]) ?_
            refine fR rfl ?_
            refine Mid.callO [1] (uses_ok H B t.dirs ht.d 2 t.name (by omega)) rfl rfl rfl rfl (by simp [stoBd]; simp [AObj.bd]) (by repeat' (first | exact trivial | exact rfl | refine And.intro ?_ ?_ | exact (congrArg some (AObj.ren_mE _ _ _ _ _ _)).symm | exact (congrArg some (AObj.ren_cE _ _ _)).symm)) rfl rfl (ob' := [(1, .arr (B ++ usesF 2 t.name [] t.dirs).length)]) (rfl) rfl rfl ?_
            refine fM rfl ?_
            refine Run.condF rfl rfl (by simp [k1]) ?_
            refine fR rfl ?_
            refine Run.condF rfl rfl (by simp [k2]) ?_
            refine fR rfl ?_
            by_cases k3 : t.kind = 3
            · rw [partL3 k3] at hB2 hlen
              refine Run.condT rfl rfl (by simp [k3]) ?_
              refine Run.condT rfl rfl (by simp [k3]) ?_
              have hml := ht.ml
              refine fR rfl ?_
              refine lM rfl rfl rfl ?_
              refine fM rfl ?_
              refine rList t.members (fun j (C : List Fault) => { env := [(3, .own 1 2 (C.map Fault.enc)), (5, .ptr 2 0), (7, .t (.int .i64 0)), (18, .t (.lst (ds.map Def.enc))), (19, .t (.int .i64 ds.length)), (20, .t (.int .i64 i)), (86, .t (.lst (t.members.map Member.enc))), (87, .t (.int .i64 t.members.length)), (88, .t (.int .i64 j))], s := ⟨[(1, .arr C.length), (2, (.cells [.t (.int .i64 t.kind), .t (.str t.name), .t (.lst (t.implements.map sE)), .t (.lst (t.dirs.map Dir.enc)), .t (.lst (t.fields.map Field.enc)), .t (.lst (t.members.map Member.enc)), .t (.lst (t.inputs.map Input.enc))]))], 3⟩ }) (fun r2 j C => C ++ (memL t.name 0 r2 ++ chkD r) = R) 3 (B ++ usesF 2 t.name [] t.dirs) rfl (by rw [← hB2]; simp) rfl rfl rfl ?_ ?_
              · rintro C hC
                refine fR rfl ?_
                refine Run.condF rfl rfl (by simp) ?_
                refine fR rfl ?_
                refine aL rfl rfl rfl rfl rfl ?_
                refine fM rfl ?_
                exact rWeak 2 rfl (ih C (by rw [← hC]; simp [memL])) rfl rfl rfl
              · rintro j x r2 C h2 hj hjd hC ih2
                have hx := ht.m x (List.mem_of_getElem? h2)
                have hxn := hx.nm
                have hxd := hx.d.len
                have hlen2 := congrArg List.length hC
                simp only [memL, List.length_append] at hlen2
                refine fR rfl ?_
                refine Run.condT rfl rfl (by simp; omega) ?_
                refine fR rfl ?_
                refine Mid.elemMap rfl rfl rfl h2 rfl rfl ?_
                refine fM rfl ?_
                refine pu rfl ?_
                refine fM rfl ?_
                refine pu rfl ?_
                refine Mid.callO [1] (uses_ok H C x.dirs hx.d 0 (t.name ++ [46] ++ x.name) (by omega)) rfl rfl rfl rfl (by simp [stoBd]; simp [AObj.bd]) (by repeat' (first | exact trivial | exact rfl | refine And.intro ?_ ?_ | exact (congrArg some (AObj.ren_mE _ _ _ _ _ _)).symm | exact (congrArg some (AObj.ren_cE _ _ _)).symm)) rfl rfl (ob' := [(1, .arr (C ++ usesF 0 (t.name ++ [46] ++ x.name) [] x.dirs).length)]) (rfl) rfl rfl ?_
                refine fM rfl ?_
                refine aL rfl rfl rfl rfl rfl ?_
                refine fM rfl ?_
                exact rWeak 3 rfl (ih2 (C ++ usesF 0 (t.name ++ [46] ++ x.name) [] x.dirs) (by rw [← hC]; simp [memL])) rfl rfl rfl
            · refine Run.condF rfl rfl (by simp [k3]) ?_
              refine fR rfl ?_
              refine Run.condF rfl rfl (by simp [k4]) ?_
              refine fR rfl ?_
              by_cases k5 : t.kind = 5
              · rw [partL5 k5] at hB2 hlen
                refine Run.condT rfl rfl (by simp [k5]) ?_
                have hil := ht.il
                refine fR rfl ?_
                refine lM rfl rfl rfl ?_
                refine fM rfl ?_
                refine rList t.inputs (fun j (C : List Fault) => { env := [(3, .own 1 2 (C.map Fault.enc)), (5, .ptr 2 0), (18, .t (.lst (ds.map Def.enc))), (19, .t (.int .i64 ds.length)), (20, .t (.int .i64 i)), (107, .t (.lst (t.inputs.map Input.enc))), (108, .t (.int .i64 t.inputs.length)), (109, .t (.int .i64 j))], s := ⟨[(1, .arr C.length), (2, (.cells [.t (.int .i64 t.kind), .t (.str t.name), .t (.lst (t.implements.map sE)), .t (.lst (t.dirs.map Dir.enc)), .t (.lst (t.fields.map Field.enc)), .t (.lst (t.members.map Member.enc)), .t (.lst (t.inputs.map Input.enc))]))], 3⟩ }) (fun r2 j C => C ++ (inpL t.name r2 ++ chkD r) = R) 3 (B ++ usesF 2 t.name [] t.dirs) rfl (by rw [← hB2]; simp) rfl rfl rfl ?_ ?_
                · rintro C hC
                  refine fR rfl ?_
                  refine Run.condF rfl rfl (by simp) ?_
                  refine fR rfl ?_
                  refine aL rfl rfl rfl rfl rfl ?_
                  refine fM rfl ?_
                  exact rWeak 2 rfl (ih C (by rw [← hC]; simp [inpL])) rfl rfl rfl
                · rintro j x r2 C h2 hj hjd hC ih2
                  have hx := ht.i x (List.mem_of_getElem? h2)
                  have hxn := hx.nm
                  have hxd := hx.d.len
                  have hlen2 := congrArg List.length hC
                  simp only [inpL, List.length_append] at hlen2
                  refine fR rfl ?_
                  refine Run.condT rfl rfl (by simp; omega) ?_
                  refine fR rfl ?_
                  refine Mid.elemMap rfl rfl rfl h2 rfl rfl ?_
                  refine fM rfl ?_
                  refine pu rfl ?_
                  refine fM rfl ?_
                  refine pu rfl ?_
                  refine Mid.callO [1] (uses_ok H C x.dirs hx.d 0 (t.name ++ [46] ++ x.name) (by omega)) rfl rfl rfl rfl (by simp [stoBd]; simp [AObj.bd]) (by repeat' (first | exact trivial | exact rfl | refine And.intro ?_ ?_ | exact (congrArg some (AObj.ren_mE _ _ _ _ _ _)).symm | exact (congrArg some (AObj.ren_cE _ _ _)).symm)) rfl rfl (ob' := [(1, .arr (C ++ usesF 0 (t.name ++ [46] ++ x.name) [] x.dirs).length)]) (rfl) rfl rfl ?_
                  refine fM rfl ?_
                  refine aL rfl rfl rfl rfl rfl ?_
                  refine fM rfl ?_
                  exact rWeak 3 rfl (ih2 (C ++ usesF 0 (t.name ++ [46] ++ x.name) [] x.dirs) (by rw [← hC]; simp [inpL])) rfl rfl rfl
              · rw [partL0 k1 k2 k3 k4 k5] at hB2
                refine Run.condF rfl rfl (by simp [k5]) ?_
                refine fR rfl ?_
                refine aL rfl rfl rfl rfl rfl ?_
                refine fM rfl ?_
                exact rWeak 2 rfl (ih (B ++ usesF 2 t.name [] t.dirs) (by rw [← hB2]; simp)) rfl rfl rfl
  exact hR _ rfl hl
end Go.GB.C23


/-
  F23L: chapter 23's functions: documents without the directives of subgraphs; the laws of sets, of checks, of what is found.
-/
namespace Go.GB.C23
open Go.GB Go.GB.C11
set_option linter.unusedSimpArgs false
set_option linter.unusedVariables false
set_option maxRecDepth 100000
set_option maxHeartbeats 4000000
variable {P : Program}

def tT : Str := [84]
def exD : Def := ⟨1, tT, [], [⟨[99, 111, 115, 116], []⟩], [], [], []⟩
theorem exD_ok : ∀ t, t ∈ [exD] → DefD t := by
  intro t h
  simp at h; subst h
  exact ⟨by decide, ⟨by decide, by intro d hd; simp [exD] at hd; subst hd; exact ⟨by decide, by decide, by simp⟩⟩, by decide, by simp [exD], by decide, by simp [exD], by decide, by simp [exD]⟩
theorem exD_chk : chkD [exD] = [⟨29, tT⟩] := by kernel_rfl
theorem ex12_ok (H : Pr23 P) : FnOk P 12 [] ⟨[], 0⟩ { v := .t (.bool true) } := by
  have h1 := dSet_ok H [105, 100, 32, 110, 97, 109, 101] (by decide) (by decide)
  rw [show setF [105, 100, 32, 110, 97, 109, 101] = ([[105, 100], [110, 97, 109, 101]], 0) by kernel_rfl] at h1
  have h2 := chk_ok H [exD] (by decide) exD_ok (by rw [exD_chk]; decide)
  rw [exD_chk] at h2
  have h3 := faults_ok H.toPr [⟨29, tT⟩] [⟨29, tT⟩] (by decide) (by decide)
  rw [decide_eq_true rfl] at h3
  have h4 := hasD_ok H 25 [⟨[98], []⟩] (by decide) [98] (.inl rfl)
  rw [show hasD [98] [⟨[98], []⟩] = true by rfl] at h4
  dsimp only at h1
  refine FnOk.run H.i12 H.mixed rfl rfl ?_
  refine fR rfl ?_
  refine Mid.call h1 rfl rfl rfl rfl ?_
  refine Mid.fast (f := 5) rfl trivial ?_
  refine Mid.done0 rfl ?_
  refine Run.fast (f := 8) rfl trivial ?_
  refine Mid.done0 rfl ?_
  refine rWeakC 3 rfl (st' := { env := [(1, .t (.lst ([[105, 100], [110, 97, 109, 101]].map sE))), (2, .t (.int .i64 0)), (3, .ptr 2 0)], s := ⟨[(2, .cells [.t (.lst ([exD].map Def.enc))])], 3⟩ }) ?_ rfl rfl rfl
  refine fR rfl ?_
  refine lMG rfl rfl rfl rfl ?_
  refine fM rfl ?_
  refine gr rfl ?_
  refine fM rfl ?_
  refine Mid.ungd rfl rfl rfl ?_
  refine Mid.call (h2) rfl rfl rfl rfl ?_
  refine fM rfl ?_
  refine Mid.ungd rfl rfl rfl ?_
  refine Mid.bslP rfl rfl rfl ?_
  skip
  refine Mid.ungd rfl rfl rfl ?_
  refine Mid.call (h3) rfl rfl rfl rfl ?_
  refine fM rfl ?_
  refine Mid.ungd rfl rfl rfl ?_
  refine Mid.bslP rfl rfl rfl ?_
  skip
  refine Mid.ungd rfl rfl rfl ?_
  refine Mid.call (h4) rfl rfl rfl rfl ?_
  refine fM rfl ?_
  refine Run.fin rfl (EndOk.go ?_); exact .t rfl

theorem argF_ok {a : Str} {v : Val} : ∀ {l : List Arg}, (∀ x, x ∈ l → x.Ok) → argF a l = some v → v.Ok
  | [], _, h => by cases h
  | x :: r, ho, h => by
    rw [argF] at h
    split at h
    · rw [← Option.some.inj h]; exact ho x (List.mem_cons_self ..)
    · exact argF_ok (fun y hy => ho y (List.mem_cons_of_mem _ hy)) h
theorem argD_ok {n a : Str} {v : Val} : ∀ {l : List Dir}, (∀ x, x ∈ l → x.Ok) → argD n a l = some v → v.Ok
  | [], _, h => by cases h
  | x :: r, ho, h => by
    rw [argD] at h
    split at h
    · exact argF_ok (ho x (List.mem_cons_self ..)).a h
    · exact argD_ok (fun y hy => ho y (List.mem_cons_of_mem _ hy)) h
theorem allD_ok {n a : Str} {v : Val} : ∀ {l : List Dir}, (∀ x, x ∈ l → x.Ok) → v ∈ allD n a l → v.Ok
  | [], _, h => by cases h
  | x :: r, ho, h => by
    rw [allD_cons] at h
    rcases List.mem_append.1 h with h | h
    · cases hf : argF a x.args with
      | none => rw [hf] at h; cases h
      | some w =>
        rw [hf] at h
        simp only [] at h
        split at h
        · simp at h; rw [h]; exact argF_ok (ho x (List.mem_cons_self ..)).a hf
        · cases h
    · exact allD_ok (fun y hy => ho y (List.mem_cons_of_mem _ hy)) h
theorem allD_len {n a : Str} : ∀ (l : List Dir), (allD n a l).length ≤ l.length
  | [] => by simp [allD]
  | x :: r => by
    have := allD_len (n := n) (a := a) r
    rw [allD_cons]
    cases argF a x.args with
    | none => simp; omega
    | some w => simp only []; split <;> simp <;> omega
theorem find23_ok (H : Pr23 P) (l : List Dir) (hl : l.length ≤ 140737488355328) (ho : ∀ x, x ∈ l → x.Ok) (n a : Str) : FnOk P 7 [.t (.lst (l.map Dir.enc)), .t (.str n), .t (.str a)] ⟨[], 0⟩ { v := .t (.bool true) } := by
  refine FnOk.run H.i7 H.mixed rfl rfl ?_
  refine fR rfl ?_
  refine lM rfl rfl rfl ?_
  refine fM rfl ?_
  refine Run.cond rfl rfl (fun h => ?_) (fun h => ?_)
  · refine fR rfl ?_
    refine Mid.call (ex12_ok H) rfl rfl rfl rfl ?_
    refine fM rfl ?_
    refine Run.fin rfl (EndOk.go ?_); exact .t rfl
  · have hs1 : l.length ≤ 60 := by simp at h; omega
    have hd : AOk l := ⟨by omega, fun d hd => (ho d hd).l⟩
    have h1 := arg_ok H l hd n a
    have h2 := rArg_ok H l hd n a
    have h3 := all_ok H l hd n a
    have h4 := rAll_ok H l hd n a
    have h5 := values_ok H (allD n a l) (by have := allD_len (n := n) (a := a) l; omega) (fun v hv => allD_ok ho hv)
    have hv : ((argD n a l).getD Val.zero).Ok := by
      cases hq : argD n a l with
      | none => exact Val.zero_ok
      | some v => exact argD_ok ho hq
    generalize (argD n a l).getD Val.zero = v at h1 h2 hv
    generalize (argD n a l).isSome = b at h1 h2
    have h6 := same23_ok H v hv
    refine fR rfl ?_
    refine Mid.call (h1) rfl rfl rfl rfl ?_
    refine fM rfl ?_
    refine Mid.call (h2) rfl rfl rfl rfl ?_
    refine fM rfl ?_
    refine Mid.call (hasD_ok H 25 l hl n (.inl rfl)) rfl rfl rfl rfl ?_
    refine fM rfl ?_
    refine Mid.call (hasD_ok H 19 l hl n (.inr rfl)) rfl rfl rfl rfl ?_
    refine fM rfl ?_
    refine caG rfl rfl (fun hg => ⟨_, rfl, h6, rfl⟩) rfl rfl ?_
    refine fM rfl ?_
    refine caG rfl rfl (fun hg => ⟨_, rfl, h3, rfl⟩) rfl rfl ?_
    refine fM rfl ?_
    refine caG rfl rfl (fun hg => ⟨_, rfl, h4, rfl⟩) rfl rfl ?_
    skip
    refine caG rfl rfl (fun hg => ⟨_, rfl, h5, rfl⟩) rfl rfl ?_
    refine fM rfl ?_
    refine caG rfl rfl (fun hg => ⟨_, rfl, ex12_ok H, rfl⟩) rfl rfl ?_
    refine fM rfl ?_
    refine Run.fin rfl (EndOk.go ?_); exact .t (by simp)
end Go.GB.C23


/-
  F23M: chapter 23's functions: the law of the directives that do not concern subgraphs.
-/
namespace Go.GB.C23
open Go.GB Go.GB.C11
set_option linter.unusedSimpArgs false
set_option linter.unusedVariables false
set_option maxRecDepth 100000
set_option maxHeartbeats 4000000
variable {P : Program}

end Go.GB.C23


/-
  GbX: what a law is handed, as trees; a law's row from its contract.
-/
namespace Go.GB
open Go.RowKit Go.WideShapes Go.ChangeShapes

abbrev allFix : Nat → Lab := fun _ => .fix none

/-- trees of a type -/
def WT (P : Program) : Nat → TypeId → List T → Prop
  | 0, _, _ => False
  | n + 1, t, ts =>
    match P.underlying t with
    | some .bool => ∃ b, ts = [.bool b]
    | some (.int k) => ∃ x, ts = [.int k x] ∧ (Lit.int k x).wf = true
    | some .string => ∃ s, ts = [.str s] ∧ s.length ≤ reachBytes
    | some (.slice e) => ∃ xs, ts = [.lst xs] ∧ xs.length * P.bytesOf e ≤ reachBytes ∧ xs.length ≤ maxLen ∧ ∀ c ∈ xs, WT P n e c
    | some (.struct fs) => ts.length = P.cellsOf t ∧ ∀ f ∈ fs.toList, WT P n f.type ((ts.drop f.offset).take (P.cellsOf f.type))
    | some (.array m e) => ts.length = P.cellsOf t ∧ ∀ i, i < m → WT P n e ((ts.drop (i * P.cellsOf e)).take (P.cellsOf e))
    | _ => False

/-- places that follow each other: where they end -/
def consec (P : Program) : Nat → List (Nat × TypeId) → Option Nat
  | off, [] => some off
  | off, (o, t) :: r => if o = off then consec P (off + P.cellsOf t) r else none

/-- types of plain data: closed under their parts -/
def plainT (P : Program) (S : List TypeId) : Bool :=
  S.all fun t =>
    match P.underlying t with
    | some .bool => true
    | some (.int _) => true
    | some .string => true
    | some (.slice e) => S.contains e && decide (0 < P.cellsOf e)
    | some (.struct fs) => (fs.toList.all fun f => S.contains f.type) && (consec P 0 (fs.toList.map fun f => (f.offset, f.type)) == some (P.cellsOf t))
    | some (.array m e) => S.contains e && (consec P 0 ((List.range m).map fun i => (i * P.cellsOf e, e)) == some (P.cellsOf t))
    | _ => false

def RepL (w : World) (cs : List Value) (ts : List T) : Prop := cs.length = ts.length ∧ ∀ (j : Nat) (v : Value) (x : T), cs[j]? = some v → ts[j]? = some x → RepT allFix w v x

theorem RepL.one {w : World} {v : Value} {x : T} (h : RepT allFix w v x) : RepL w [v] [x] := by
  refine ⟨rfl, fun j u y h1 h2 => ?_⟩
  cases j with
  | zero => simp at h1 h2; subst h1; subst h2; exact h
  | succ j => simp at h1

theorem mapM_at {α β : Type} {g : α → Option β} : ∀ {l : List α} {r : List β}, l.mapM g = some r → l.length = r.length ∧ ∀ (j : Nat) (x : α), l[j]? = some x → ∃ y, r[j]? = some y ∧ g x = some y
  | [], r, h => by simp at h; subst h; simp
  | a :: l, r, h => by
    simp only [List.mapM_cons, Option.bind_eq_bind, Option.pure_def, Option.bind_eq_some_iff] at h
    obtain ⟨y, hy, r', hr, h⟩ := h
    simp at h; subst h
    obtain ⟨i1, i2⟩ := mapM_at hr
    refine ⟨by simp [i1], fun j x hx => ?_⟩
    cases j with
    | zero => simp at hx; subst hx; exact ⟨y, rfl, hy⟩
    | succ j => simpa using i2 j x (by simpa using hx)

theorem spot_none {w : World} {a : Addr} {v : Value} (h : w.cell? a = some v) : a.spot = none := by
  unfold World.cell? at h
  cases hs : a.spot with
  | none => rfl
  | some s =>
    rw [hs] at h
    split at h <;> simp_all

theorem cells?_at {w : World} {base n : Nat} {a : Addr} {cs : List Value} (h : w.cells? base a n = some cs) : cs.length = n ∧ ∀ (j : Nat) (v : Value), cs[j]? = some v → w.cell? (a.add j) = some v := by
  unfold World.cells? at h
  split at h
  · obtain ⟨h1, h2⟩ := mapM_at h
    simp at h1
    refine ⟨h1.symm, fun j v hj => ?_⟩
    have hlt : j < n := by rw [h1]; exact (List.getElem?_eq_some_iff.1 hj).1
    obtain ⟨y, e1, e2⟩ := h2 j j (by simp [hlt])
    rw [hj] at e1; simp at e1; subst e1; exact e2
  · cases h

/-- a list chosen index by index -/
theorem choose_list {α : Type} {Q : Nat → α → Prop} : ∀ (n : Nat), (∀ j, j < n → ∃ v, Q j v) → ∃ vs : List α, vs.length = n ∧ ∀ (j : Nat) (v : α), vs[j]? = some v → Q j v
  | 0, _ => ⟨[], rfl, by simp⟩
  | n + 1, h => by
    obtain ⟨vs, hl, hv⟩ := choose_list n (fun j hj => h j (by omega))
    obtain ⟨v, hq⟩ := h n (by omega)
    refine ⟨vs ++ [v], by simp [hl], fun j u hu => ?_⟩
    by_cases hj : j < vs.length
    · rw [List.getElem?_append_left hj] at hu; exact hv j u hu
    · rw [List.getElem?_append_right (by omega)] at hu
      by_cases e : j = n
      · subst e; rw [hl] at hu; simp at hu; subst hu; exact hq
      · rw [List.getElem?_eq_none (by simp; omega)] at hu; cases hu

theorem pieces {P : Program} {w : World} {n : Nat} {cs : List Value} : ∀ (l : List (Nat × TypeId)) (off tot : Nat), consec P off l = some tot → tot ≤ cs.length → (∀ p ∈ l, ∃ ts, RepL w ((cs.drop p.1).take (P.cellsOf p.2)) ts ∧ WT P n p.2 ts) →
    off ≤ tot ∧ ∃ ts : List T, ts.length = tot - off ∧ (∀ (j : Nat) (v : Value) (x : T), cs[off + j]? = some v → ts[j]? = some x → RepT allFix w v x) ∧ ∀ p ∈ l, off ≤ p.1 ∧ WT P n p.2 ((ts.drop (p.1 - off)).take (P.cellsOf p.2))
  | [], off, tot, hc, _, _ => by simp [consec] at hc; subst hc; exact ⟨Nat.le_refl _, [], by simp, by simp, by simp⟩
  | (o, t) :: r, off, tot, hc, hl, hp => by
    simp only [consec] at hc
    split at hc
    · rename_i e; subst e
      obtain ⟨h1, ts, h2, h3, h4⟩ := pieces r (o + P.cellsOf t) tot hc hl (fun p hp' => hp p (List.mem_cons_of_mem _ hp'))
      obtain ⟨us, k1, k2⟩ := hp (o, t) (by simp)
      have hul : us.length = P.cellsOf t := by rw [← k1.1]; simp; omega
      refine ⟨by omega, us ++ ts, by simp [hul, h2]; omega, fun j v x hv hx => ?_, fun p hpm => ?_⟩
      · by_cases hj : j < us.length
        · rw [List.getElem?_append_left hj] at hx
          refine k1.2 j v x ?_ hx
          simp only
          rw [List.getElem?_take, if_pos (by omega), List.getElem?_drop]; exact hv
        · rw [List.getElem?_append_right (by omega)] at hx
          refine h3 (j - us.length) v x ?_ hx
          have : o + P.cellsOf t + (j - us.length) = o + j := by omega
          rw [this]; exact hv
      · rcases List.mem_cons.1 hpm with e | e
        · subst e
          refine ⟨Nat.le_refl _, ?_⟩
          simp only [Nat.sub_self, List.drop_zero]
          rw [List.take_append_of_le_length (by omega), List.take_of_length_le (by omega)]
          exact k2
        · obtain ⟨g1, g2⟩ := h4 p e
          refine ⟨by omega, ?_⟩
          have : p.1 - o = us.length + (p.1 - (o + P.cellsOf t)) := by omega
          rw [this, List.drop_append, List.drop_eq_nil_of_le (by omega)]
          simpa using g2
    · cases hc

section
variable {H : Type} {enc : TypeId × Value → H} {P : Program} {w : World} {sp : Nat → Bool} {held : Bool} {S : List TypeId}

theorem weightsAll_of {e : TypeId} {r : Nat → Bool} : ∀ (l : List (DataW H)), (DataW.weightsAll P e l).all r = true → ∀ d ∈ l, (d.weights P e).all r = true
  | [], _, d, h => by cases h
  | x :: l, h, d, hd => by
    simp only [DataW.weightsAll, List.all_append, Bool.and_eq_true] at h
    cases hd with
    | head => exact h.1
    | tail _ hd => exact weightsAll_of l h.2 d hd
theorem weightsEach_of {r : Nat → Bool} : ∀ (ts : List TypeId) (l : List (DataW H)), (DataW.weightsEach P ts l).all r = true → ∀ (j : Nat) t d, ts[j]? = some t → l[j]? = some d → (d.weights P t).all r = true
  | [], l, _, j, t, d, h, _ => by simp at h
  | t :: ts, [], _, j, t', d, _, h => by simp at h
  | t :: ts, x :: l, h, j, t', d, h1, h2 => by
    simp only [DataW.weightsEach, List.all_append, Bool.and_eq_true] at h
    cases j with
    | zero => simp at h1 h2; subst h1; subst h2; exact h.1
    | succ j => exact weightsEach_of ts l h.2 j t' d (by simpa using h1) (by simpa using h2)
theorem trod_rep (hp : plainT P S = true) : ∀ (n : Nat) (t : TypeId) (cs : List Value) (d : DataW H) (ps : List MemPlace), t ∈ S → DataW.trod enc P w 0 sp held n t cs = some (d, ps) → (d.weights P t).all (· ≤ reachBytes) = true → ∃ ts, RepL w cs ts ∧ WT P n t ts
  | 0, t, cs, d, ps, _, h, _ => by simp [DataW.trod] at h
  | n + 1, t, cs, d, ps, ht, h, hwt => by
    have hpt := List.all_eq_true.1 hp t ht
    simp only [WT]
    cases hu : P.underlying t with
    | none => rw [hu] at hpt; simp at hpt
    | some td =>
      rw [hu] at hpt
      cases td with
      | bool =>
        rcases cs with _ | ⟨v, _ | ⟨v2, r⟩⟩ <;> try (simp [DataW.trod, hu] at h; done)
        cases v <;> simp [DataW.trod, hu] at h
        rename_i b
        exact ⟨[.bool b], RepL.one (.bool b), b, rfl⟩
      | int k =>
        rcases cs with _ | ⟨v, _ | ⟨v2, r⟩⟩ <;> try (simp [DataW.trod, hu] at h; done)
        cases v <;> simp [DataW.trod, hu] at h
        rename_i k' x
        obtain ⟨⟨rfl, h2⟩, _⟩ := h
        exact ⟨[.int k' x], RepL.one (.int _ _), x, rfl, h2⟩
      | string =>
        rcases cs with _ | ⟨v, _ | ⟨v2, r⟩⟩ <;> try (simp [DataW.trod, hu] at h; done)
        cases v <;> simp [DataW.trod, hu] at h
        rename_i s
        rw [← h.2.1] at hwt
        exact ⟨[.str s.data.toList], RepL.one (.str _), s.data.toList, rfl, by simpa [DataW.weights] using hwt⟩
      | slice e =>
        simp only [Bool.and_eq_true, decide_eq_true_eq] at hpt
        have he : e ∈ S := by simpa using hpt.1
        rcases cs with _ | ⟨v, _ | ⟨v2, r⟩⟩ <;> try (simp [DataW.trod, hu] at h; done)
        cases v <;> try (simp [DataW.trod, hu] at h; done)
        rename_i a len cap
        cases a with
        | none =>
          have h0 : len = 0 ∧ cap = 0 := by
            cases len <;> cases cap <;> simp_all [DataW.trod]
          obtain ⟨rfl, rfl⟩ := h0
          exact ⟨[.lst []], RepL.one .nil, [], rfl, by simp, by simp, by simp⟩
        | some a =>
          simp only [DataW.trod, hu] at h
          split at h
          · rename_i hcond
            simp only [Option.bind_eq_some_iff] at h
            obtain ⟨elems, hel, hrest⟩ := h
            obtain ⟨hl, hat⟩ := mapM_at hel
            simp at hl
            rw [Option.map_eq_some_iff] at hrest
            obtain ⟨rest, _, hde⟩ := hrest
            simp only [Prod.mk.injEq] at hde
            rw [← hde.1] at hwt
            simp only [DataW.weights, hu, List.all_cons, List.all_append, Bool.and_eq_true, decide_eq_true_eq, List.length_map] at hwt
            have hreach : len * P.bytesOf e ≤ reachBytes := by
              rw [hl]
              exact Nat.le_trans (Nat.mul_le_mul_right _ (Nat.le_add_right _ _)) hwt.1
            have hone : ∀ i, i < len → ∃ q : List Value × List T, w.cells? 0 (a.add (i * P.cellsOf e)) (P.cellsOf e) = some q.1 ∧ RepL w q.1 q.2 ∧ WT P n e q.2 := by
              intro i hi
              obtain ⟨y, hye, hy⟩ := hat i i (by simp [hi])
              simp only [Option.bind_eq_some_iff] at hy
              obtain ⟨c, hc, hy⟩ := hy
              obtain ⟨d', ps'⟩ := y
              obtain ⟨ts, k1, k2⟩ := trod_rep hp n e c d' ps' he hy (weightsAll_of _ hwt.2.1 _ (List.mem_map.2 ⟨(d', ps'), List.mem_of_getElem? hye, rfl⟩))
              exact ⟨(c, ts), hc, k1, k2⟩
            obtain ⟨qs, hql, hq⟩ := choose_list len hone
            have hsz : ∀ (i : Nat) (q : List Value × List T), qs[i]? = some q → q.1.length = P.cellsOf e ∧ q.2.length = P.cellsOf e := by
              intro i q hi
              obtain ⟨h1, h2, _⟩ := hq i q hi
              have := (cells?_at h1).1
              exact ⟨this, by rw [← h2.1]; exact this⟩
            -- the address has no spot, where anything is read
            have hspot : 0 < len → a.spot = none := by
              intro h0
              have hq0 : qs[0]? = some (qs[0]'(by omega)) := by simp
              obtain ⟨h1, _, _⟩ := hq 0 _ hq0
              obtain ⟨e1, e2⟩ := cells?_at h1
              have hlt : 0 < (qs[0]'(by omega)).1.length := by rw [(hsz 0 _ hq0).1]; exact hpt.2
              have := spot_none (e2 0 _ (List.getElem?_eq_getElem hlt))
              simpa [Addr.add] using this
            have hadd : ∀ m, 0 < len → a.add m = ⟨a.block, a.off + m, none⟩ := by
              intro m h0
              have hs := hspot h0
              obtain ⟨b, o, s⟩ := a
              simp at hs; subst hs
              exact add_mk b o m
            refine ⟨[.lst (qs.map (·.2))], RepL.one ?_, qs.map (·.2), rfl, by simpa [hql] using hreach, by simp [hql]; omega, fun c hc => ?_⟩
            · have hlen : len = (qs.map (·.2)).length := by simp [hql]
              rw [hlen]
              refine .lst (some a) cap (P.cellsOf e) (qs.map (·.2)) a.block a.off (fun i j => ((qs.map (·.1)).getD i []).getD j undef) (by rw [← hlen]; exact hcond.2.1) ?_ ?_ ?_ ?_ ?_
              · intro i c hc
                rw [List.getElem?_map, Option.map_eq_some_iff] at hc
                obtain ⟨q, h1, rfl⟩ := hc
                exact (hsz i q h1).2
              · intro i j c x hc hx
                have h0 : 0 < len := by have := (List.getElem?_eq_some_iff.1 hc).1; simp [hql] at this; omega
                have hs := hspot h0
                obtain ⟨b, o, s⟩ := a
                simp at hs; subst hs; rfl
              · intro i j c x hc hx; trivial
              · intro i j c x hc hx
                rw [List.getElem?_map, Option.map_eq_some_iff] at hc
                obtain ⟨q, h1, rfl⟩ := hc
                have h0 : 0 < len := by have := (List.getElem?_eq_some_iff.1 h1).1; omega
                obtain ⟨g1, g2, _⟩ := hq i q h1
                obtain ⟨e1, e2⟩ := cells?_at g1
                have hj : j < q.1.length := by rw [g2.1]; exact (List.getElem?_eq_some_iff.1 hx).1
                have := e2 j _ (List.getElem?_eq_getElem hj)
                rw [hadd _ h0] at this
                rw [add_mk] at this
                rw [this]
                simp [h1, hj]
              · intro i j c x hc hx
                rw [List.getElem?_map, Option.map_eq_some_iff] at hc
                obtain ⟨q, h1, rfl⟩ := hc
                obtain ⟨g1, g2, _⟩ := hq i q h1
                have hj : j < q.1.length := by rw [g2.1]; exact (List.getElem?_eq_some_iff.1 hx).1
                have := g2.2 j _ x (List.getElem?_eq_getElem hj) hx
                simpa [h1, hj] using this
            · rw [List.mem_map] at hc
              obtain ⟨q, h1, rfl⟩ := hc
              obtain ⟨i, hi⟩ := List.mem_iff_getElem?.1 h1
              exact (hq i q hi).2.2
          · cases h
      | struct fs =>
        simp only [Bool.and_eq_true, List.all_eq_true, beq_iff_eq] at hpt
        have hh : cs.length = P.cellsOf t ∧ ∃ xs, (fs.toList.mapM fun f => DataW.trod enc P w 0 sp held n f.type ((cs.drop f.offset).take (P.cellsOf f.type))) = some xs ∧ d = .agg (xs.map (·.1)) := by
          have h' := h
          simp only [DataW.trod, hu] at h'
          split at h'
          · rename_i hc
            simp only [Option.map_eq_some_iff] at h'
            obtain ⟨xs, hxs, hd⟩ := h'
            exact ⟨hc, xs, hxs, by simp only [Prod.mk.injEq] at hd; exact hd.1.symm⟩
          · cases h'
        obtain ⟨hlen, xs, hxs, rfl⟩ := hh
        obtain ⟨hl, hat⟩ := mapM_at hxs
        simp only [DataW.weights, hu] at hwt
        obtain ⟨_, ts, g1, g2, g3⟩ := pieces (n := n) (w := w) (cs := cs) _ 0 _ hpt.2 (by omega) (fun p hpm => by
          rw [List.mem_map] at hpm
          obtain ⟨f, hf, rfl⟩ := hpm
          obtain ⟨j, hj⟩ := List.mem_iff_getElem?.1 hf
          obtain ⟨y, hye, hy⟩ := hat j f hj
          obtain ⟨d', ps'⟩ := y
          exact trod_rep hp n f.type _ d' ps' (by simpa using hpt.1 f hf) hy (weightsEach_of _ _ hwt j f.type d' (by simp [hj]) (by simp [hye])))
        refine ⟨ts, ⟨by omega, fun j v x hv hx => g2 j v x (by simpa using hv) hx⟩, by omega, fun f hf => ?_⟩
        have := (g3 (f.offset, f.type) (List.mem_map.2 ⟨f, hf, rfl⟩)).2
        simpa using this
      | array m e =>
        simp only [Bool.and_eq_true, beq_iff_eq] at hpt
        have hh : cs.length = P.cellsOf t ∧ ∃ xs, ((List.range m).mapM fun i => DataW.trod enc P w 0 sp held n e ((cs.drop (i * P.cellsOf e)).take (P.cellsOf e))) = some xs ∧ d = .agg (xs.map (·.1)) := by
          have h' := h
          simp only [DataW.trod, hu] at h'
          split at h'
          · rename_i hc
            simp only [Option.map_eq_some_iff] at h'
            obtain ⟨xs, hxs, hd⟩ := h'
            exact ⟨hc, xs, hxs, by simp only [Prod.mk.injEq] at hd; exact hd.1.symm⟩
          · cases h'
        obtain ⟨hlen, xs, hxs, rfl⟩ := hh
        obtain ⟨hl, hat⟩ := mapM_at hxs
        simp only [DataW.weights, hu] at hwt
        obtain ⟨_, ts, g1, g2, g3⟩ := pieces (n := n) (w := w) (cs := cs) _ 0 _ hpt.2 (by omega) (fun p hpm => by
          rw [List.mem_map] at hpm
          obtain ⟨i, hi, rfl⟩ := hpm
          obtain ⟨y, hye, hy⟩ := hat i i (by simp [List.mem_range.1 hi])
          obtain ⟨d', ps'⟩ := y
          exact trod_rep hp n e _ d' ps' (by simpa using hpt.1) hy (weightsAll_of _ hwt _ (List.mem_map.2 ⟨(d', ps'), List.mem_of_getElem? hye, rfl⟩)))
        refine ⟨ts, ⟨by omega, fun j v x hv hx => g2 j v x (by simpa using hv) hx⟩, by omega, fun i hi => ?_⟩
        have := (g3 (i * P.cellsOf e, e) (List.mem_map.2 ⟨i, List.mem_range.2 hi, rfl⟩)).2
        simpa using this
      | _ => simp at hpt

/-- an argument as an abstract value -/
def argV (P : Program) (t : TypeId) (ts : List T) : V := if isAggT P t then .agg (ts.map V.t) else .t (ts.headD .nilp)

/-- the world that a law is called in -/
def L.all (w : World) : L := { lab := allFix, fro := fun _ => 0, nxt := 0, w := w }

theorem RelS.all (w : World) : RelS (L.all w) ⟨[], 0⟩ := ⟨by simp [aget], fun b b' k h => by simp [L.all] at h, fun _ _ => rfl, fun b k h => by simp [L.all] at h, fun _ _ => rfl⟩

theorem arg_rel (hp : plainT P S = true) {base : Nat} {t : TypeId} {v : Value} {d : DataW H} {ps : List MemPlace} (ht : t ∈ S) (hok : Value.okWide P w .any base t v) (h : DataW.Trod enc P w 0 sp held t v d ps) (hwt : (d.weights P t).all (· ≤ reachBytes) = true) :
    ∃ n ts, WT P n t ts ∧ RelV (L.all w) v (argV P t ts) := by
  obtain ⟨n, hn⟩ := h
  obtain ⟨ts, h1, h2⟩ := trod_rep hp n t _ d ps ht hn hwt
  refine ⟨n, ts, h2, ?_⟩
  have hpt := List.all_eq_true.1 hp t ht
  unfold argV
  by_cases hag : isAggT P t = true
  · simp only [hag, if_true]
    have : ∃ cs, v = .agg cs := by
      unfold isAggT at hag
      unfold Value.okWide at hok
      cases hu : P.underlying t with
      | none => rw [hu] at hag; simp at hag
      | some td => rw [hu] at hag hok; cases td <;> simp at hag <;> exact ⟨_, hok.choose_spec.1⟩
    obtain ⟨cs, rfl⟩ := this
    refine .agg (by simpa [Value.cells] using h1.1) fun j u c hj hc => ?_
    rw [List.getElem?_map, Option.map_eq_some_iff] at hc
    obtain ⟨x, hx, rfl⟩ := hc
    exact .t (h1.2 j u x (by simpa [Value.cells] using hj) hx)
  · simp only [hag, if_false, Bool.false_eq_true]
    have hcells : v.cells = #[v] := by
      unfold isAggT at hag
      unfold Value.okWide at hok
      cases hu : P.underlying t with
      | none => rw [hu] at hpt; simp at hpt
      | some td =>
        rw [hu] at hag hok hpt
        cases td <;> simp at hag hpt <;> simp only [Cell.okWide, Cell.ok, hu] at hok <;> cases v <;> first | rfl | (exact hok.elim)
    have hcl : ts.length = 1 := by rw [← h1.1, hcells]; rfl
    obtain ⟨x, rfl⟩ : ∃ x, ts = [x] := by
      match ts, hcl with
      | [x], _ => exact ⟨x, rfl⟩
    exact .t (h1.2 0 v x (by rw [hcells]; rfl) rfl)

/-- arguments one by one -/
inductive WTs (P : Program) : List TypeId → List V → Prop
  | nil : WTs P [] []
  | cons {t : TypeId} {ts : List TypeId} {n : Nat} {xs : List T} {vs : List V} (h : WT P n t xs) (r : WTs P ts vs) : WTs P (t :: ts) (argV P t xs :: vs)

theorem args_rel (hp : plainT P S = true) {base : Nat} : ∀ (ts : List TypeId) (args : List Value) (ds : List (DataW H)) (ps : List MemPlace), (∀ t ∈ ts, t ∈ S) → (∀ (j : Nat) t v, ts[j]? = some t → args[j]? = some v → Value.okWide P w .any base t v) →
    DataW.TrodAll enc P w 0 sp held ts args ds ps → (DataW.weightsEach P ts ds).all (· ≤ reachBytes) = true → ∃ vs, WTs P ts vs ∧ args.length = vs.length ∧ ∀ (j : Nat) (v : Value) (x : V), args[j]? = some v → vs[j]? = some x → RelV (L.all w) v x
  | [], [], [], ps, _, _, _, _ => ⟨[], .nil, rfl, by simp⟩
  | t :: ts, v :: args, d :: ds, ps, hS, hok, ⟨p, q, h1, h2, _⟩, hwt => by
    simp only [DataW.weightsEach, List.all_append, Bool.and_eq_true] at hwt
    obtain ⟨vs, k1, k2, k3⟩ := args_rel hp ts args ds q (fun t ht => hS t (List.mem_cons_of_mem _ ht)) (fun j t v a b => hok (j + 1) t v (by simpa using a) (by simpa using b)) h2 hwt.2
    obtain ⟨n, xs, g1, g2⟩ := arg_rel hp (hS t (by simp)) (hok 0 t v rfl rfl) h1 hwt.1
    refine ⟨argV P t xs :: vs, .cons g1 k1, by simp [k2], fun j u x hu hx => ?_⟩
    cases j with
    | zero => simp at hu hx; subst hu; subst hx; exact g2
    | succ j => exact k3 j u x (by simpa using hu) (by simpa using hx)
  | [], _ :: _, _, _, _, _, h, _ => by simp [DataW.TrodAll] at h
  | [], [], _ :: _, _, _, _, h, _ => by simp [DataW.TrodAll] at h
  | _ :: _, [], _, _, _, _, h, _ => by simp [DataW.TrodAll] at h
  | _ :: _, _ :: _, [], _, _, _, h, _ => by simp [DataW.TrodAll] at h

theorem trodAll_stays (hl : laidOutB P = true) {W W' : World} (hb : Below W.heap.size W W') {sp' : Nat → Bool} : ∀ (ts : List TypeId) (vs : List Value) (ds : List (DataW H)) (ps : List MemPlace), (∀ t ∈ ts, P.readableRec t = true ∧ t < P.types.size) → DataW.TrodAll enc P W 0 (fun _ => true) true ts vs ds ps →
    (∀ p ∈ ps, p.block < W.heap.size) → (∀ p ∈ ps, sp' p.block = true) → DataW.TrodAll enc P W' 0 sp' true ts vs ds ps
  | [], [], [], _, _, h, _, _ => h
  | t :: ts, v :: vs, d :: ds, _, hT, ⟨p, q, h1, h2, e⟩, hlt, hs => by
    subst e
    refine ⟨p, q, WideElems.Trod_stays hl (hT t (by simp)).1 (hT t (by simp)).2 h1 (fun x hx => hb.same (hlt x (List.mem_append_left _ hx))) (fun x hx => hs x (List.mem_append_left _ hx)), ?_, rfl⟩
    exact trodAll_stays hl hb ts vs ds q (fun t ht => hT t (List.mem_cons_of_mem _ ht)) h2 (fun x hx => hlt x (List.mem_append_right _ hx)) (fun x hx => hs x (List.mem_append_right _ hx))
  | [], _ :: _, _, _, _, h, _, _ => by simp [DataW.TrodAll] at h
  | [], [], _ :: _, _, _, h, _, _ => by simp [DataW.TrodAll] at h
  | _ :: _, [], _, _, _, h, _, _ => by simp [DataW.TrodAll] at h
  | _ :: _, _ :: _, [], _, _, h, _, _ => by simp [DataW.TrodAll] at h

end

section
variable {H : Type} {enc : TypeId × Value → H} {P : Program}
theorem post_of_below {f : Func} {s : ChangeSpec} {apart fresh handsOn again : Bool} {W W' : World} {args : Array Value} {v : Value} {ds gs : List (DataW H)} {before pa pv : List MemPlace}
    (hW : DataW.Whole enc P f.params.toList s.vars apart W args.toList ds gs before)
    (hres : ∀ (b : Nat) (sp : Nat → Bool) (hd : Bool), DataW.TrodAll enc P W' b sp hd f.resultTypes.toList (v.resultList f.resultTypes.size) (s.fn H (ds ++ gs)).results [])
    (hargs : ∀ sp : Nat → Bool, (∀ p ∈ before, sp p.block = true) → DataW.TrodAll enc P W' 0 sp true f.params.toList args.toList (s.fn H (ds ++ gs)).args pa)
    (hvars : ∀ sp : Nat → Bool, (∀ p ∈ before, sp p.block = true) → DataW.TrodVars enc P W' sp s.vars (s.fn H (ds ++ gs)).vars pv)
    (hps : before = pa ++ pv) (hb : Below W.heap.size W W')
    (hok : ∀ (j : Nat) (t : TypeId) (r : Value), f.resultTypes[j]? = some t → (v.resultList f.resultTypes.size)[j]? = some r → Value.okWide P W' .any 0 t r) :
    s.post enc P f apart fresh handsOn again W args v W' := by
  have hlt : ∀ p ∈ before, p.block < W.heap.size := fun p hp => hW.lt p hp
  have hold : ∀ p ∈ before, (fun b => decide (b < W.heap.size)) p.block = true := fun p hp => by simpa using hlt p hp
  refine ⟨ds, gs, before, [], pa, pv, hW, hres _ _ _, hargs _ hold, hvars _ hold, World.keptBut_mono (fun p hp => ⟨hp, ?_⟩) (hb.frame (· ∈ before)), fun _ => ?_⟩
  · rw [hps, List.mem_append] at hp
    exact Or.inr hp
  · obtain ⟨_, _, _, _, _, hz, hn⟩ := hW
    refine ⟨hok, _, _, ([] ++ pa) ++ pv, ⟨[] ++ pa, pv, trodAll_append (hargs _ (fun _ _ => rfl)) (hres _ _ _), hvars _ (fun _ _ => rfl), rfl, ?_, ?_⟩, ?_⟩
    · intro b off hp
      have hin : MemPlace.cell b off ∈ before := by rw [hps]; simpa using hp
      rw [hb.frozen (hlt _ hin)]
      exact hz b off hin
    · intro ha
      have := hn ha
      rw [hps] at this
      simpa using this
    · intro p hp _
      rw [hps]
      simpa using hp

/-- A law's contract, as its row wants it. -/
theorem law_contract {S : List TypeId} {f : FuncId} {fn : Func} {s : ChangeSpec} {tb : TypeId} {apart fresh handsOn again : Bool} (hp : plainT P S = true) (hl : laidOutB P = true) (hT : ∀ t ∈ fn.params.toList, t ∈ S ∧ P.readableRec t = true ∧ t < P.types.size)
    (hrt : fn.resultTypes = #[tb]) (hb : P.underlying tb = some .bool) (hv : s.vars = []) (hs : ∀ ds : List (DataW H), ds.length = fn.params.size → s.fn H ds = { results := [.lit (.bool true)], args := ds })
    (W : World) (base : Nat) (args : Array Value) (ds gs : List (DataW H)) (before : List MemPlace)
    (hval : ∀ (j : Nat) t v, fn.params[j]? = some t → args[j]? = some v → Value.okWide P W .any base t v)
    (hW : DataW.Whole enc P fn.params.toList s.vars apart W args.toList ds gs before)
    (hwt : (DataW.weightsEach P (fn.params.toList ++ s.plain.varTypes P) (ds ++ gs)).all (· ≤ reachBytes) = true)
    (hok : ∀ vs, WTs P fn.params.toList vs → FnOk P f vs ⟨[], 0⟩ { v := .t (.bool true) }) :
    Calls P f args W fun e W' => ∃ v, e = .returned v ∧ s.post enc P fn apart fresh handsOn again W args v W' := by
  have hW' := hW
  obtain ⟨p, q, hA, hV, rfl, hfz, hnd⟩ := hW
  rw [hv] at hV
  obtain ⟨rfl, rfl⟩ := trodVars_none hV
  have hdl : ds.length = fn.params.size := by
    have : ∀ (ts : List TypeId) (vs : List Value) (ds : List (DataW H)) (ps : List MemPlace), DataW.TrodAll enc P W 0 (fun _ => true) true ts vs ds ps → ds.length = ts.length := by
      intro ts
      induction ts with
      | nil => intro vs ds ps h; cases vs <;> cases ds <;> simp_all [DataW.TrodAll]
      | cons t ts ih =>
        intro vs ds ps h
        cases vs with
        | nil => simp [DataW.TrodAll] at h
        | cons v vs =>
          cases ds with
          | nil => simp [DataW.TrodAll] at h
          | cons d ds => obtain ⟨p, q, _, h2, _⟩ := h; simp [ih vs ds q h2]
    simpa using this _ _ _ _ hA
  have hwt' : (DataW.weightsEach P fn.params.toList ds).all (· ≤ reachBytes) = true := by
    have happ : ∀ (ts us : List TypeId) (ds es : List (DataW H)), ts.length = ds.length → DataW.weightsEach P (ts ++ us) (ds ++ es) = DataW.weightsEach P ts ds ++ DataW.weightsEach P us es := by
      intro ts
      induction ts with
      | nil => intro us ds es h; cases ds with
        | nil => simp [DataW.weightsEach]
        | cons d ds => simp at h
      | cons t ts ih => intro us ds es h; cases ds with
        | nil => simp at h
        | cons d ds => simp only [List.cons_append, DataW.weightsEach, List.append_assoc]; rw [ih us ds es (by simpa using h)]
    rw [happ _ _ _ _ (by simpa using hdl.symm), List.all_append, Bool.and_eq_true] at hwt
    exact hwt.1
  obtain ⟨vs, k1, k2, k3⟩ := args_rel hp _ _ _ _ (fun t ht => (hT t ht).1) (fun j t v a b => hval j t v (by simpa using a) (by simpa using b)) hA hwt'
  refine ((hok vs k1).2 (L.all W) args (RelS.all W) rfl (by simpa using k2) (fun j v x a b => k3 j v x (by simpa using a) b)).mono fun e W' he => ?_
  obtain ⟨v, Λ', rfl, rfl, g1, g2, g3, g4⟩ := he
  have hvt := g4.repT.bool_inv
  subst hvt
  have hbel : Below W.heap.size W Λ'.w := ⟨g1.fr.os, g1.fr.tape, g1.fr.output, g1.fr.size, fun b hb => (g1.fr.fix b hb none rfl).2⟩
  have hsf := hs (ds ++ []) (by simpa using hdl)
  refine ⟨_, rfl, post_of_below (pa := p) (pv := []) (by simpa using hW') ?_ ?_ ?_ (by simp) hbel ?_⟩
  · intro b sp hd
    rw [hsf, hrt]
    exact ⟨[], [], ⟨1, by simp [DataW.trod, hb, Value.cells]⟩, rfl, rfl⟩
  · intro sp hsp
    rw [hsf]
    have hlt : ∀ x ∈ p, x.block < W.heap.size := fun x hx => hW'.lt x (by simpa using hx)
    simpa using trodAll_stays hl hbel _ _ _ _ (fun t ht => (hT t ht).2) hA hlt (fun x hx => hsp x (by simpa using hx))
  · intro sp hsp
    rw [hsf, hv]; rfl
  · intro j t r hj hr
    rw [hrt] at hj
    cases j with
    | zero =>
      simp at hj; subst hj
      simp [hrt, Value.resultList] at hr; subst hr
      simp [Value.okWide, Cell.okWide, Cell.ok, hb]
    | succ j => simp at hj
end
end Go.GB


/-
  GbZA: shapes of plain types: what a law is handed, taken apart.
-/
namespace Go.GB
open Go.RowKit Go.WideShapes Go.ChangeShapes

inductive Sh where
  | bool
  | int (k : IntKind)
  | str
  | lst (b : Nat) (s : List Sh)
  | any
  | num (i : Nat)

/-- fields side by side -/
def joinSh (P : Program) (g : TypeId → Option (List Sh)) : Nat → List (Nat × TypeId) → Option (List Sh)
  | _, [] => some []
  | off, (o, t) :: r =>
    if o = off then
      match g t with
      | some a => if a.length = P.cellsOf t then (joinSh P g (off + P.cellsOf t) r).map fun b => a ++ b else none
      | none => none
    else none

def shOf (P : Program) (sp : TypeId → Option Nat) : Nat → TypeId → Option (List Sh)
  | 0, t =>
    match P.underlying t with
    | some .bool => some [.bool]
    | some (.int k) => some [.int k]
    | some .string => some [.str]
    | some (.slice e) => match sp e with | some i => some [.num i] | none => some [.any]
    | _ => none
  | n + 1, t =>
    match P.underlying t with
    | some .bool => some [.bool]
    | some (.int k) => some [.int k]
    | some .string => some [.str]
    | some (.slice e) => match sp e with | some i => some [.num i] | none => (shOf P sp n e).map fun s => [.lst (P.bytesOf e) s]
    | some (.struct fs) => (joinSh P (shOf P sp n) 0 (fs.toList.map fun f => (f.offset, f.type))).bind fun s => if s.length = P.cellsOf t then some s else none
    | some (.array m e) => (joinSh P (shOf P sp n) 0 ((List.range m).map fun i => (i * P.cellsOf e, e))).bind fun s => if s.length = P.cellsOf t then some s else none
    | _ => none

mutual
/-- a tree of that shape; numbers stand for lists of types that contain themselves -/
def Sh.ok (Y : Nat → T → Prop) : Sh → T → Prop
  | .bool, x => ∃ b, x = .bool b
  | .int k, x => ∃ n, x = .int k n ∧ (Lit.int k n).wf = true
  | .str, x => ∃ s, x = .str s ∧ s.length ≤ reachBytes
  | .lst b sh, x => ∃ xs : List (List T), x = .lst xs ∧ xs.length * b ≤ reachBytes ∧ xs.length ≤ maxLen ∧ ∀ c ∈ xs, Sh.oks Y sh c
  | .any, _ => True
  | .num i, x => Y i x
def Sh.oks (Y : Nat → T → Prop) : List Sh → List T → Prop
  | [], [] => True
  | s :: r, x :: ts => s.ok Y x ∧ Sh.oks Y r ts
  | _, _ => False
end

theorem Sh.oks_append {Y : Nat → T → Prop} : ∀ {a b : List Sh} {ts us : List T}, Sh.oks Y a ts → Sh.oks Y b us → Sh.oks Y (a ++ b) (ts ++ us)
  | [], b, [], us, _, h => h
  | [], b, x :: ts, us, h, _ => by simp [Sh.oks] at h
  | s :: r, b, [], us, h, _ => by simp [Sh.oks] at h
  | s :: r, b, x :: ts, us, h, k => by
    simp only [Sh.oks, List.cons_append] at h ⊢
    exact ⟨h.1, Sh.oks_append h.2 k⟩
theorem joinSh_ok {P : Program} {Y : Nat → T → Prop} {g : TypeId → Option (List Sh)} {n : Nat} (hg : ∀ t sh ts, g t = some sh → WT P n t ts → Sh.oks Y sh ts) : ∀ (l : List (Nat × TypeId)) (off : Nat) (sh : List Sh) (ts : List T), joinSh P g off l = some sh → (∀ p ∈ l, WT P n p.2 ((ts.drop p.1).take (P.cellsOf p.2))) →
    ∃ us, Sh.oks Y sh us ∧ us = (ts.drop off).take sh.length
  | [], off, sh, ts, h, _ => by simp [joinSh] at h; subst h; exact ⟨[], trivial, by simp⟩
  | (o, t) :: r, off, sh, ts, h, hp => by
    simp only [joinSh] at h
    split at h
    · rename_i e; subst e
      split at h
      · rename_i a ha
        split at h
        · rename_i hl
          simp only [Option.map_eq_some_iff] at h
          obtain ⟨b, hb, rfl⟩ := h
          have h1 := hg t a _ ha (hp (o, t) (by simp))
          obtain ⟨us, h2, h3⟩ := joinSh_ok hg r _ b ts hb fun p hpm => hp p (List.mem_cons_of_mem _ hpm)
          refine ⟨_, Sh.oks_append h1 h2, ?_⟩
          simp only at h1 ⊢
          rw [h3, List.length_append, hl, List.take_add, List.drop_drop]
        · cases h
      · cases h
    · cases h

theorem shOf_ok {P : Program} {sp : TypeId → Option Nat} {Y : Nat → T → Prop} : ∀ (n m : Nat) (t : TypeId) (sh : List Sh) (ts : List T), (∀ e i k xs, k < n → sp e = some i → xs.length * P.bytesOf e ≤ reachBytes → xs.length ≤ maxLen → (∀ c ∈ xs, WT P k e c) → Y i (.lst xs)) → shOf P sp m t = some sh → WT P n t ts → Sh.oks Y sh ts
  | 0, m, t, sh, ts, _, _, h => by simp [WT] at h
  | n + 1, 0, t, sh, ts, hsp, hs, h => by
    simp only [shOf] at hs
    simp only [WT] at h
    cases hu : P.underlying t with
    | none => rw [hu] at h; exact h.elim
    | some td =>
      rw [hu] at h hs
      cases td with
      | bool => simp only [Option.some.injEq] at hs h; subst hs; obtain ⟨b, rfl⟩ := h; exact ⟨⟨b, rfl⟩, trivial⟩
      | int k => simp at hs h; subst hs; obtain ⟨x, rfl, hw⟩ := h; exact ⟨⟨x, rfl, hw⟩, trivial⟩
      | string => simp at hs h; subst hs; obtain ⟨s, rfl, hw⟩ := h; exact ⟨⟨s, rfl, hw⟩, trivial⟩
      | slice e =>
        obtain ⟨xs, rfl, hr, hl, hc⟩ := h
        cases he : sp e with
        | none => simp only [he, Option.some.injEq] at hs; subst hs; exact ⟨trivial, trivial⟩
        | some i => simp only [he, Option.some.injEq] at hs; subst hs; exact ⟨hsp e i n xs (by omega) he hr hl hc, trivial⟩
      | _ => simp at hs
  | n + 1, m + 1, t, sh, ts, hsp, hs, h => by
    have hsp' : ∀ e i k xs, k < n → sp e = some i → xs.length * P.bytesOf e ≤ reachBytes → xs.length ≤ maxLen → (∀ c ∈ xs, WT P k e c) → Y i (.lst xs) := fun e i k xs hk => hsp e i k xs (by omega)
    simp only [shOf] at hs
    simp only [WT] at h
    cases hu : P.underlying t with
    | none => rw [hu] at h; exact h.elim
    | some td =>
      rw [hu] at h hs
      cases td with
      | bool => simp only [Option.some.injEq] at hs h; subst hs; obtain ⟨b, rfl⟩ := h; exact ⟨⟨b, rfl⟩, trivial⟩
      | int k => simp at hs h; subst hs; obtain ⟨x, rfl, hw⟩ := h; exact ⟨⟨x, rfl, hw⟩, trivial⟩
      | string => simp at hs h; subst hs; obtain ⟨s, rfl, hw⟩ := h; exact ⟨⟨s, rfl, hw⟩, trivial⟩
      | slice e =>
        obtain ⟨xs, rfl, hr, hl, hc⟩ := h
        cases hse : sp e with
        | none =>
          simp only [hse, Option.map_eq_some_iff] at hs
          obtain ⟨s, he, rfl⟩ := hs
          exact ⟨⟨xs, rfl, hr, hl, fun c hcm => shOf_ok n m e s c hsp' he (hc c hcm)⟩, trivial⟩
        | some i => simp only [hse, Option.some.injEq] at hs; subst hs; exact ⟨hsp e i n xs (by omega) hse hr hl hc, trivial⟩
      | struct fs =>
        simp only [Option.bind_eq_some_iff] at hs h
        obtain ⟨s, hs, hs2⟩ := hs
        split at hs2
        · rename_i hl
          simp at hs2; subst hs2
          obtain ⟨us, h1, h2⟩ := joinSh_ok (ts := ts) (Y := Y) (g := shOf P sp m) (n := n) (fun t sh ts a b => shOf_ok n m t sh ts hsp' a b) _ 0 s hs (fun p hp => by
            rw [List.mem_map] at hp
            obtain ⟨f, hf, rfl⟩ := hp
            exact h.2 f hf)
          rw [List.drop_zero, List.take_of_length_le (by omega)] at h2
          subst h2; exact h1
        · cases hs2
      | array k e =>
        simp only [Option.bind_eq_some_iff] at hs h
        obtain ⟨s, hs, hs2⟩ := hs
        split at hs2
        · rename_i hl
          simp at hs2; subst hs2
          obtain ⟨us, h1, h2⟩ := joinSh_ok (ts := ts) (Y := Y) (g := shOf P sp m) (n := n) (fun t sh ts a b => shOf_ok n m t sh ts hsp' a b) _ 0 s hs (fun p hp => by
            rw [List.mem_map] at hp
            obtain ⟨i, hi, rfl⟩ := hp
            exact h.2 i (List.mem_range.1 hi))
          rw [List.drop_zero, List.take_of_length_le (by omega)] at h2
          subst h2; exact h1
        · cases hs2
      | _ => simp at h

/-- trees one by one -/
theorem Sh.oks_cons {Y : Nat → T → Prop} {s : Sh} {r : List Sh} {ts : List T} (h : Sh.oks Y (s :: r) ts) : ∃ x ts', ts = x :: ts' ∧ s.ok Y x ∧ Sh.oks Y r ts' := by
  cases ts with
  | nil => simp [Sh.oks] at h
  | cons x ts => exact ⟨x, ts, rfl, h⟩
theorem Sh.oks_nil {Y : Nat → T → Prop} {ts : List T} (h : Sh.oks Y [] ts) : ts = [] := by
  cases ts with
  | nil => rfl
  | cons x ts => simp [Sh.oks] at h

/-- a list whose elements are encodings -/
theorem choose_map {α : Type} {f : α → List T} {Q : α → Prop} : ∀ (xs : List (List T)), (∀ c ∈ xs, ∃ a, c = f a ∧ Q a) → ∃ l : List α, xs = l.map f ∧ ∀ a ∈ l, Q a
  | [], _ => ⟨[], rfl, by simp⟩
  | c :: xs, h => by
    obtain ⟨l, h1, h2⟩ := choose_map xs (fun c hc => h c (List.mem_cons_of_mem _ hc))
    obtain ⟨a, rfl, ha⟩ := h c (by simp)
    exact ⟨a :: l, by simp [h1], fun b hb => by
      rcases List.mem_cons.1 hb with e | e
      · subst e; exact ha
      · exact h2 b e⟩

theorem WTs.cons_inv {P : Program} {t : TypeId} {ts : List TypeId} {vs : List V} (h : WTs P (t :: ts) vs) {m : Nat} {sh : List Sh} {sp : TypeId → Option Nat} {Y : Nat → T → Prop} (hsp : ∀ e i n xs, sp e = some i → xs.length * P.bytesOf e ≤ reachBytes → xs.length ≤ maxLen → (∀ c ∈ xs, WT P n e c) → Y i (.lst xs)) (hs : shOf P sp m t = some sh) : ∃ xs r, vs = argV P t xs :: r ∧ Sh.oks Y sh xs ∧ WTs P ts r := by
  cases h with
  | cons h r => exact ⟨_, _, rfl, shOf_ok _ _ _ _ _ (fun e i k xs _ => hsp e i k xs) hs h, r⟩
theorem WTs.nil_inv {P : Program} {vs : List V} (h : WTs P [] vs) : vs = [] := by
  cases h; rfl
theorem argV_one {P : Program} {t : TypeId} (h : isAggT P t = false) (x : T) : argV P t [x] = .t x := by simp [argV, h]

/-- 'law_contract', its facts as Booleans -/
theorem law_ok {H : Type} {enc : TypeId × Value → H} {P : Program} (S : List TypeId) {f : FuncId} {fn : Func} {s : ChangeSpec} {tb : TypeId} {apart fresh handsOn again : Bool} (hp : plainT P S = true) (hl : laidOutB P = true)
    (hT : (fn.params.toList.all fun t => S.contains t && P.readableRec t && decide (t < P.types.size)) = true)
    (hrt : fn.resultTypes = #[tb]) (hb : P.underlying tb = some .bool) (hv : s.vars = []) (hs : ∀ ds : List (DataW H), ds.length = fn.params.size → s.fn H ds = { results := [.lit (.bool true)], args := ds })
    (W : World) (base : Nat) (args : Array Value) (ds gs : List (DataW H)) (before : List MemPlace)
    (hval : ∀ (j : Nat) t v, fn.params[j]? = some t → args[j]? = some v → Value.okWide P W .any base t v)
    (hW : DataW.Whole enc P fn.params.toList s.vars apart W args.toList ds gs before)
    (hwt : (DataW.weightsEach P (fn.params.toList ++ s.plain.varTypes P) (ds ++ gs)).all (· ≤ reachBytes) = true)
    (hok : ∀ vs, WTs P fn.params.toList vs → FnOk P f vs ⟨[], 0⟩ { v := .t (.bool true) }) :
    Calls P f args W fun e W' => ∃ v, e = .returned v ∧ s.post enc P fn apart fresh handsOn again W args v W' := by
  refine law_contract (S := S) hp hl (fun t ht => ?_) hrt hb hv hs W base args ds gs before hval hW hwt hok
  rw [List.all_eq_true] at hT
  have := hT t ht
  simp only [Bool.and_eq_true, decide_eq_true_eq, List.contains_iff_mem] at this
  exact ⟨this.1.1, this.1.2, this.2⟩

theorem len3 {α : Type} {l : List α} (h : l.length = 3) : ∃ a b c, l = [a, b, c] := by
  match l, h with
  | [a, b, c], _ => exact ⟨a, b, c, rfl⟩

end Go.GB


/-
  GbBk: what a law is handed, with its bulk: values and letters, each counted each time it is reached.
-/
namespace Go.GB
open Go.RowKit Go.WideShapes Go.ChangeShapes

mutual
def T.bulk : T → Nat
  | .str s => s.length + 1
  | .lst xs => bulkLL xs + 1
  | .bool _ => 1
  | .int _ _ => 1
  | .ptr _ => 1
  | .fn _ => 1
  | .nilp => 1
  | .nilm => 1
  | .nilf => 1
def bulkLL : List (List T) → Nat
  | [] => 0
  | c :: r => bulkL c + bulkLL r
def bulkL : List T → Nat
  | [] => 0
  | x :: r => x.bulk + bulkL r
end
/-- a measure of readings that counts values and letters -/
structure Bulk {H : Type} (B : DataW H → Nat) : Prop where
  lit : ∀ l, 1 ≤ B (.lit l)
  str : ∀ bs, bs.length + 1 ≤ B (.lit (.string bs))
  nil : 1 ≤ B .nil
  slice : ∀ e s, (e.map B).sum + 1 ≤ B (.slice e s)
  agg : ∀ ps, (ps.map B).sum ≤ B (.agg ps)

section
variable {H : Type} {enc : TypeId × Value → H} {P : Program} {w : World} {sp : Nat → Bool} {held : Bool} {S : List TypeId} {B : DataW H → Nat}

end

section
variable {H : Type} {enc : TypeId × Value → H} {P : Program}
end
end Go.GB


/-
  F23N: what the bulk of a document says of its directives.
-/
namespace Go.GB.C23
open Go.GB Go.GB.C11

end Go.GB.C23


/-
  F23P: the laws of directives, for documents of bounded bulk.
-/
namespace Go.GB.C23
open Go.GB Go.GB.C11
variable {P : Program}
end Go.GB.C23


/-
  GbSh: what a law is handed, of package api's types.
-/
namespace Go.GB
open Go.RowKit
set_option linter.unusedSimpArgs false
set_option linter.unusedVariables false

def valSh : List Sh := [.int .i64, .int .i64, .str, .num 0, .lst 16 [.str]]
def argSh : List Sh := .str :: valSh
def dirSh : List Sh := [.str, .lst 96 argSh]
/-- lists of types that contain themselves -/
def YA : Nat → T → Prop
  | 0, x => ∃ l : List Val, x = .lst (l.map Val.enc) ∧ l.length * 80 ≤ B47 ∧ ∀ v ∈ l, v.Ok
  | _, x => ∃ l : List Pick, x = .lst (l.map Pick.enc) ∧ l.length * 160 ≤ B47 ∧ ∀ p ∈ l, p.Ok ∧ p.on.length ≤ maxLen

theorem reach_le : reachBytes ≤ 140737488355328 := by decide
theorem strs_of {Y : Nat → T → Prop} {x : T} {b : Nat} (h : (Sh.lst b [.str]).ok Y x) : ∃ l : List Str, x = .lst (l.map sE) ∧ l.length * b ≤ reachBytes ∧ ∀ s ∈ l, s.length ≤ reachBytes := by
  obtain ⟨xs, rfl, h1, _, h2⟩ := h
  obtain ⟨l, rfl, h3⟩ := choose_map (f := sE) (Q := fun s => s.length ≤ reachBytes) xs fun c hc => by
    obtain ⟨x, r, rfl, ⟨s, rfl, hs⟩, h⟩ := Sh.oks_cons (h2 c hc)
    obtain rfl := Sh.oks_nil h
    exact ⟨s, rfl, hs⟩
  exact ⟨l, rfl, by simpa using h1, h3⟩
theorem list_of {α : Type} {f : α → List T} {Q : α → Prop} {Y : Nat → T → Prop} {x : T} {b : Nat} {sh : List Sh} (hf : ∀ c, Sh.oks Y sh c → ∃ a, c = f a ∧ Q a) (h : (Sh.lst b sh).ok Y x) : ∃ l : List α, x = .lst (l.map f) ∧ l.length * b ≤ reachBytes ∧ l.length ≤ maxLen ∧ ∀ a ∈ l, Q a := by
  obtain ⟨xs, rfl, h1, h0, h2⟩ := h
  obtain ⟨l, rfl, h3⟩ := choose_map (f := f) (Q := Q) xs fun c hc => hf c (h2 c hc)
  exact ⟨l, rfl, by simpa using h1, by simpa using h0, h3⟩

/-- the shape of a value -/
theorem val_sh {r : List Sh} {c : List T} (h : Sh.oks YA (valSh ++ r) c) : ∃ (v : Val) (c' : List T), c = v.cs ++ c' ∧ v.Ok ∧ Sh.oks YA r c' := by
  obtain ⟨x1, c, rfl, ⟨k, rfl, _⟩, g1⟩ := Sh.oks_cons h
  obtain ⟨x2, c, rfl, ⟨i, rfl, _⟩, g2⟩ := Sh.oks_cons g1
  obtain ⟨x3, c, rfl, ⟨t, rfl, ht⟩, g3⟩ := Sh.oks_cons g2
  obtain ⟨x4, c, rfl, ⟨its, rfl, hi1, hi2⟩, g4⟩ := Sh.oks_cons g3
  obtain ⟨x5, c, rfl, hk, g5⟩ := Sh.oks_cons g4
  obtain ⟨ks, rfl, hk1, hk2⟩ := strs_of hk
  have := reach_le
  refine ⟨.mk k i t its ks, c, rfl, .mk hi1 (by unfold B47; omega) hi2 (by omega) (fun x hx => by have := hk2 x hx; omega), g5⟩
theorem val_sh0 {c : List T} (h : Sh.oks YA valSh c) : ∃ v : Val, c = v.enc ∧ v.Ok := by
  obtain ⟨v, c', rfl, h1, h2⟩ := val_sh (r := []) (by simpa using h)
  obtain rfl := Sh.oks_nil h2
  exact ⟨v, by rw [Val.enc_eq, List.append_nil], h1⟩
theorem arg_sh {c : List T} (h : Sh.oks YA argSh c) : ∃ a : Arg, c = a.enc ∧ a.Ok := by
  obtain ⟨x, c, rfl, ⟨n, rfl, _⟩, g1⟩ := Sh.oks_cons h
  obtain ⟨v, c', rfl, h1, h2⟩ := val_sh (r := []) (by simpa using g1)
  obtain rfl := Sh.oks_nil h2
  exact ⟨⟨n, v⟩, by simp [Arg.enc, Val.cs], h1⟩
theorem dir_sh {c : List T} (h : Sh.oks YA dirSh c) : ∃ a : Dir, c = a.enc ∧ a.Ok := by
  have := reach_le
  obtain ⟨x, c, rfl, ⟨n, rfl, hn⟩, g1⟩ := Sh.oks_cons h
  obtain ⟨x, c, rfl, hx, g2⟩ := Sh.oks_cons g1
  obtain rfl := Sh.oks_nil g2
  obtain ⟨l, rfl, h1, _, h2⟩ := list_of (fun c hc => arg_sh hc) hx
  exact ⟨⟨n, l⟩, rfl, ⟨by show l.length ≤ _; omega, h2, by show n.length ≤ _; omega⟩⟩
theorem dirs_sh {b : Nat} (hb : 0 < b) {x : T} (h : (Sh.lst b dirSh).ok YA x) : ∃ l : List Dir, x = .lst (l.map Dir.enc) ∧ l.length ≤ 140737488355328 ∧ ∀ d ∈ l, d.Ok := by
  have := reach_le
  obtain ⟨l, rfl, h1, _, h2⟩ := list_of (fun c hc => dir_sh hc) h
  refine ⟨l, rfl, ?_, h2⟩
  have : l.length ≤ l.length * b := Nat.le_mul_of_pos_right _ hb
  omega
/-- the types that contain themselves -/
def spV (vt : TypeId) (e : TypeId) : Option Nat := if e = vt then some 0 else none
theorem val_wt {P : Program} {vt : TypeId} (hb : P.bytesOf vt = 80) (hs : shOf P (spV vt) 6 vt = some valSh) : ∀ (n : Nat) (c : List T), WT P n vt c → ∃ v : Val, c = v.enc ∧ v.Ok := by
  intro n
  induction n using Nat.strongRecOn with
  | _ n ih =>
    intro c h
    refine val_sh0 (shOf_ok (Y := YA) n 6 vt valSh c (fun e i k xs hk he hr hl hc => ?_) hs h)
    unfold spV at he
    split at he
    · rename_i e1; subst e1
      simp only [Option.some.injEq] at he; subst he
      obtain ⟨l, rfl, h3⟩ := choose_map (f := Val.enc) (Q := Val.Ok) xs fun c hcm => ih k hk c (hc c hcm)
      have := reach_le
      rw [hb] at hr
      exact ⟨l, rfl, by unfold B47; simp at hr; omega, h3⟩
    · cases he
end Go.GB


/-
  D11R: shapes of chapter 11's arguments.
-/
namespace Go.GB.C11
open Go.GB

theorem spV_ok {P : Program} {vt : TypeId} (hb : P.bytesOf vt = 80) (hs : shOf P (spV vt) 6 vt = some valSh) :
    ∀ e i n xs, spV vt e = some i → xs.length * P.bytesOf e ≤ reachBytes → xs.length ≤ maxLen → (∀ c ∈ xs, WT P n e c) → YA i (.lst xs) := by
  have hv := val_wt hb hs
  intro e i k xs he hr hl hc
  have := reach_le
  unfold spV at he
  split at he
  · rename_i e1; subst e1
    simp only [Option.some.injEq] at he; subst he
    obtain ⟨l, rfl, h3⟩ := choose_map (f := Val.enc) (Q := Val.Ok) xs fun c hcm => hv k c (hc c hcm)
    rw [hb] at hr
    exact ⟨l, rfl, by unfold B47; simp at hr; omega, h3⟩
  · cases he
end Go.GB.C11


/-
  F25A: moves: sets of fields that directives name; keys of types.
-/
namespace Go.GB.C23
open Go.GB Go.GB.C11
set_option linter.unusedSimpArgs false
set_option linter.unusedVariables false
set_option maxRecDepth 100000
set_option maxHeartbeats 4000000
structure Pr25 (P : Program) : Prop extends Pr23 P where
  i64 : fnInfo P 64 = some (n64, c64.bare, r64)

variable {P : Program}

/- what is said of the texts of values -/
/-- directives of a document of bounded bulk -/
structure DK (ds : List Dir) : Prop where
  l : ds.length ≤ 1048576
  d : ∀ d, d ∈ ds → DOk d
theorem DK.len {l : List Dir} (h : DK l) : l.length ≤ 140737488355328 := by have := h.l; omega
/-- the set of fields of the first use of a directive -/
def setM (l : List Dir) (n : Str) : List Str := (setF ((argD n ([102, 105, 101, 108, 100, 115] : Str) l).getD Val.zero).text).1
/- keys -/
def keysD : List Dir → List (List Str)
  | [] => []
  | d :: r => (if d.name = ([107, 101, 121] : Str) then [setM [d] ([107, 101, 121] : Str)] else []) ++ keysD r
/- a field of a key -/
def isKeyM (l : List Dir) (f : Str) : Bool := (keysD l).any fun k => decide (f ∈ k)
end Go.GB.C23


/-
  F25B: moves: leaf types, fields that graphs resolve, fields that are external.
-/
namespace Go.GB.C23
open Go.GB Go.GB.C11
set_option linter.unusedSimpArgs false
set_option linter.unusedVariables false
set_option maxRecDepth 100000
set_option maxHeartbeats 4000000
variable {P : Program}

structure Graph where
  name : Str
  doc : List Def
def Graph.enc (g : Graph) : List T := [.str g.name, .lst (g.doc.map Def.enc)]
def Graph.v (g : Graph) : V := .agg [.t (.str g.name), .t (.lst (g.doc.map Def.enc))]

structure FK (x : Field) : Prop where
  d : DK x.dirs
  al : x.args.length ≤ 140737488355328
  w : x.ty.wraps.length ≤ 140737488355328
  nm : x.name.length ≤ 140737488355328
structure TK (t : Def) : Prop where
  d : DK t.dirs
  fl : t.fields.length ≤ 1048576
  f : ∀ x, x ∈ t.fields → FK x
  nm : t.name.length ≤ 140737488355328
structure GK (ds : List Def) : Prop where
  ok : DocOk ds
  l : ds.length ≤ 1048576
  t : ∀ t, t ∈ ds → TK t
theorem DK.nil : DK [] := ⟨by decide, by simp⟩
theorem FK.zero : FK Field.zero := ⟨DK.nil, by decide, by decide, by decide⟩
theorem TK.zero : TK Def.zero := ⟨DK.nil, by decide, by simp [Def.zero], by decide⟩
theorem GK.find {ds : List Def} (h : GK ds) (n : Str) : TK ((findDef n ds).getD Def.zero) := by
  cases hf : findDef n ds with
  | none => exact TK.zero
  | some t => exact h.t t (findDef_mem hf)
theorem TK.field {t : Def} (h : TK t) (n : Str) : FK ((findField n t.fields).getD Field.zero) := by
  cases hf : findField n t.fields with
  | none => exact FK.zero
  | some t => exact h.f t (findField_mem hf)
theorem GK.len {ds : List Def} (h : GK ds) : ds.length ≤ 140737488355328 := h.ok.l

def kindM (ds : List Def) (n : Str) : Int := ((findDef n ds).getD Def.zero).kind
def leafM (ds : List Def) (n : Str) : Bool := scalF n || kindM ds n == 4
def resM (ds : List Def) (n f : Str) : Bool :=
  (((findDef n ds).isSome && (findField f ((findDef n ds).getD Def.zero).fields).isSome) && ((findDef n ds).getD Def.zero).kind == 1) && !hasD ([101, 120, 116, 101, 114, 110, 97, 108] : Str) ((findField f ((findDef n ds).getD Def.zero).fields).getD Field.zero).dirs
def othM (a : Nat) (n f : Str) : Nat → List Graph → Bool
  | _, [] => false
  | i, g :: r => (((i : Int) != (a : Int)) && resM g.doc n f) || othM a n f (i + 1) r
/-- a name that is not an external field without arguments, of a leaf type -/
def outB (ds : List Def) (t : Def) (n : Str) : Bool :=
  ((!(findField n t.fields).isSome || !hasD ([101, 120, 116, 101, 114, 110, 97, 108] : Str) ((findField n t.fields).getD Field.zero).dirs) || decide ((((findField n t.fields).getD Field.zero).args.length : Int) > 0)) || !leafM ds ((findField n t.fields).getD Field.zero).ty.name
def outM (ds : List Def) (t : Def) (l : List Str) : Bool := !l.any (outB ds t) && decide ((l.length : Int) > 0)
end Go.GB.C23


/-
  F25C: moves: fields that are mentioned in a graph, and fields that graphs lean on.
-/
namespace Go.GB.C23
open Go.GB Go.GB.C11
set_option linter.unusedSimpArgs false
set_option linter.unusedVariables false
set_option maxRecDepth 100000
set_option maxHeartbeats 4000000
variable {P : Program}

/-- a field that another one requires -/
def reqM (f : Str) (l : List Field) : Bool := l.any fun x => decide (f ∈ setM x.dirs ([114, 101, 113, 117, 105, 114, 101, 115] : Str))
/-- does a graph lean on a field? -/
def leaG (n f : Str) (g : Graph) : Bool := !(((findDef n g.doc).getD Def.zero).kind != 1) && (isKeyM ((findDef n g.doc).getD Def.zero).dirs f || reqM f ((findDef n g.doc).getD Def.zero).fields)
/-- a field of a type that another field of that type provides -/
def prvM (f : Str) (n : Str) (k : Int) (y : Field) : Bool := (k == 1 && y.ty.name == n) && decide (f ∈ setM y.dirs ([112, 114, 111, 118, 105, 100, 101, 115] : Str))
def menM (ds : List Def) (t : Def) (f : Str) : Bool := isKeyM t.dirs f || (reqM f t.fields || ds.any fun x => x.fields.any (prvM f t.name x.kind))
end Go.GB.C23


/-
  F25D: moves: violations of keys.
-/
namespace Go.GB.C23
open Go.GB Go.GB.C11
set_option linter.unusedSimpArgs false
set_option linter.unusedVariables false
set_option maxRecDepth 100000
set_option maxHeartbeats 4000000
variable {P : Program}

def ifM (c : Bool) (x : Fault) : List Fault := if c then [x] else []
/- keys -/
def rootB (n : Str) : Bool := (n == [81, 117, 101, 114, 121] || n == [77, 117, 116, 97, 116, 105, 111, 110]) || n == [83, 117, 98, 115, 99, 114, 105, 112, 116, 105, 111, 110]
/-- a type that is not null, of a leaf type -/
def plainM (ds : List Def) (x : Field) : Bool := (match x.ty.wraps with | [w] => w == 1 | _ => false) && leafM ds x.ty.name
def keyN (ds : List Def) (t : Def) (b : Bool) (n : Str) : Bool :=
  ((b || !(findField n t.fields).isSome) || decide ((((findField n t.fields).getD Field.zero).args.length : Int) > 0)) || !plainM ds ((findField n t.fields).getD Field.zero)
def keyB (ds : List Def) (t : Def) (i : Nat) (k : List Str) : Bool := k.foldl (keyN ds t) ((decide ((i : Int) ≥ 4) || rootB t.name) || ((k.length : Int) == 0))
def keyL (g : Graph) (t : Def) : Nat → List (List Str) → List Fault
  | _, [] => []
  | i, k :: r => ifM (keyB g.doc t i k) ⟨41, g.name ++ [58] ++ t.name⟩ ++ keyL g t (i + 1) r
end Go.GB.C23


/-
  F25E: moves: violations of fields.
-/
namespace Go.GB.C23
open Go.GB Go.GB.C11
set_option linter.unusedSimpArgs false
set_option linter.unusedVariables false
set_option maxRecDepth 100000
set_option maxHeartbeats 4000000
variable {P : Program}

def placeM (g : Graph) (t : Def) (x : Field) : Str := g.name ++ [58] ++ (t.name ++ [46] ++ x.name)
def c1M (gs : List Graph) (a : Nat) (g : Graph) (t : Def) (x : Field) : Bool := hasD ([101, 120, 116, 101, 114, 110, 97, 108] : Str) x.dirs && (!menM g.doc t x.name || !othM a t.name x.name 0 gs)
def c2M (gs : List Graph) (g : Graph) (t : Def) (x : Field) : Bool := hasD ([114, 101, 113, 117, 105, 114, 101, 115] : Str) x.dirs && (((hasD ([101, 120, 116, 101, 114, 110, 97, 108] : Str) x.dirs || gs.any (leaG t.name x.name)) || (((keysD t.dirs).length : Int) == 0)) || !outM g.doc t (setM x.dirs ([114, 101, 113, 117, 105, 114, 101, 115] : Str)))
def c3M (g : Graph) (x : Field) : Bool := (!(findDef x.ty.name g.doc).isSome || ((findDef x.ty.name g.doc).getD Def.zero).kind != 1) || !outM g.doc ((findDef x.ty.name g.doc).getD Def.zero) (setM x.dirs ([112, 114, 111, 118, 105, 100, 101, 115] : Str))
def c4M (gs : List Graph) (a : Nat) (t : Def) (x : Field) : Bool := (!hasD ([101, 120, 116, 101, 114, 110, 97, 108] : Str) x.dirs && othM a t.name x.name 0 gs) && (hasD ([114, 101, 113, 117, 105, 114, 101, 115] : Str) x.dirs || !(hasD ([115, 104, 97, 114, 101, 97, 98, 108, 101] : Str) x.dirs || isKeyM t.dirs x.name))
def fieldF (gs : List Graph) (a : Nat) (g : Graph) (t : Def) (x : Field) : List Fault :=
  ifM (c1M gs a g t x) ⟨42, placeM g t x⟩ ++ (ifM (c2M gs g t x) ⟨43, placeM g t x⟩ ++ ((if hasD ([112, 114, 111, 118, 105, 100, 101, 115] : Str) x.dirs = true then ifM (c3M g x) ⟨44, placeM g t x⟩ else []) ++ ifM (c4M gs a t x) ⟨40, placeM g t x⟩))
end Go.GB.C23


/-
  F25F: moves: keys and joins of graphs.
-/
namespace Go.GB.C23
open Go.GB Go.GB.C11
set_option linter.unusedSimpArgs false
set_option linter.unusedVariables false
set_option maxRecDepth 100000
set_option maxHeartbeats 4000000
variable {P : Program}

structure KeyO where
  ty : Str
  graph : Int
  fields : List Str
def KeyO.enc (k : KeyO) : List T := [.str k.ty, .int .i64 k.graph, .lst (k.fields.map sE)]
structure Jn where
  ty : Str
  field : Str
  graph : Int
  ext : Bool
  req : List Str
  prov : List Str
def Jn.enc (j : Jn) : List T := [.str j.ty, .str j.field, .int .i64 j.graph, .bool j.ext, .lst (j.req.map sE), .lst (j.prov.map sE)]
structure Acc where
  k : List KeyO
  j : List Jn
  b : List Fault

def keyOf (i : Nat) (t : Def) (k : List Str) : KeyO := ⟨t.name, i, k⟩
def jnOf (i : Nat) (t : Def) (x : Field) : Jn := ⟨t.name, x.name, i, hasD ([101, 120, 116, 101, 114, 110, 97, 108] : Str) x.dirs, setM x.dirs ([114, 101, 113, 117, 105, 114, 101, 115] : Str), setM x.dirs ([112, 114, 111, 118, 105, 100, 101, 115] : Str)⟩
def kDef (i : Nat) (t : Def) : List KeyO := if t.kind = 1 then (keysD t.dirs).map (keyOf i t) else []
def jDef (i : Nat) (t : Def) : List Jn := if t.kind = 1 then t.fields.map (jnOf i t) else []
def fL (gs : List Graph) (i : Nat) (g : Graph) (t : Def) : List Field → List Fault
  | [] => []
  | x :: r => fieldF gs i g t x ++ fL gs i g t r
def bDef (gs : List Graph) (i : Nat) (g : Graph) (t : Def) : List Fault := if t.kind = 1 then keyL g t 0 (keysD t.dirs) ++ fL gs i g t t.fields else []
def kDefs (i : Nat) : List Def → List KeyO
  | [] => []
  | t :: r => kDef i t ++ kDefs i r
def jDefs (i : Nat) : List Def → List Jn
  | [] => []
  | t :: r => jDef i t ++ jDefs i r
def bDefs (gs : List Graph) (i : Nat) (g : Graph) : List Def → List Fault
  | [] => []
  | t :: r => bDef gs i g t ++ bDefs gs i g r
def kAll : Nat → List Graph → List KeyO
  | _, [] => []
  | i, g :: r => kDefs i g.doc ++ kAll (i + 1) r
def jAll : Nat → List Graph → List Jn
  | _, [] => []
  | i, g :: r => jDefs i g.doc ++ jAll (i + 1) r
def bAll (gs : List Graph) : Nat → List Graph → List Fault
  | _, [] => []
  | i, g :: r => bDefs gs i g g.doc ++ bAll gs (i + 1) r
structure JoinsB (gs : List Graph) : Prop where
  l : gs.length ≤ 140737488355328
  g : ∀ g, g ∈ gs → GK g.doc
  n : ∀ g, g ∈ gs → g.name.length ≤ 140737488355328
  k : (kAll 0 gs).length ≤ 549755813888
  j : (jAll 0 gs).length ≤ 549755813888
  b : (bAll gs 0 gs).length ≤ 549755813888

end Go.GB.C23


/-
  F25J: shapes of graphs and supergraphs, as laws are handed them.
-/
namespace Go.GB.C23
open Go.GB Go.GB.C11
set_option linter.unusedSimpArgs false
set_option linter.unusedVariables false

theorem dirs_sh0 {c : List T} (h : Sh.oks YA [.lst 40 dirSh] c) : ∃ l : List Dir, c = [.lst (l.map Dir.enc)] ∧ l.length ≤ 140737488355328 ∧ ∀ d, d ∈ l → d.Ok := by
  obtain ⟨x, c, rfl, hx, g⟩ := Sh.oks_cons h
  obtain rfl := Sh.oks_nil g
  obtain ⟨l, rfl, h1, h2⟩ := dirs_sh (by decide) hx
  exact ⟨l, rfl, h1, h2⟩
theorem str_sh1 {c : List T} (h : Sh.oks YA [.str] c) : ∃ s : Str, c = [.str s] ∧ s.length ≤ 140737488355328 := by
  have := reach_le
  obtain ⟨x, c, rfl, ⟨s, rfl, hs⟩, g⟩ := Sh.oks_cons h
  obtain rfl := Sh.oks_nil g
  exact ⟨s, rfl, by omega⟩
end Go.GB.C23


/-
  GbZH: a law's statement with the bound on its arguments' sizes.
-/
namespace Go.GB
open Go.RowKit Go.WideShapes Go.ChangeShapes
theorem handed {H : Type} {enc : TypeId × Value → H} {a : Assume} {C : Checked} {os : Os} {f : FuncId} {fn : Func} {s : ChangeSpec} {conds : List PathCond} {apart fresh handsOn again : Bool}
    (own : ownKnob C.prog.godebug = none) (started : os.Started) (noInit : C.prog.inits.idxOf? f = none) (hfn : C.prog.funcs[f]? = some fn)
    (witness : ∃ (w : World) (tape : Tape) (i : Go.Input), w.os = os ∧ (w.forCall tape i).Shaped C.prog ∧ i.vars = [] ∧ Go.Input.okWide C.prog (w.forCall tape i) .any w.heap.size f i ∧
      s.pre6 enc C.prog fn conds apart (w.forCall tape i).memory i.args ∧ a.holds C.prog (lone (Frame.enter C.prog f i.args .normal) [] (w.forCall tape i)))
    (contract : ∀ (W : World) (base : Nat) (args : Array Value) (ds gs : List (DataW H)) (before : List MemPlace),
      (∀ (j : Nat) t v, fn.params[j]? = some t → args[j]? = some v → Value.okWide C.prog W .any base t v) →
      DataW.Whole enc C.prog fn.params.toList s.vars apart W args.toList ds gs before →
      (DataW.weightsEach C.prog (fn.params.toList ++ s.plain.varTypes C.prog) (ds ++ gs)).all (· ≤ reachBytes) = true →
      Calls C.prog f args W fun e W' => ∃ v, e = .returned v ∧ s.post enc C.prog fn apart fresh handsOn again W args v W') :
    ReturnsInHanded a C os f .any (s.pre6 enc C.prog fn conds apart) (s.post enc C.prog fn apart fresh handsOn again) := by
  have e : (fun (w : World) (args : Array Value) => (s.pre enc C.prog fn conds apart w args ∧ True) ∧ sizedMet enc C.prog fn (OpenSpec.ofChange s) apart w args) = s.pre6 enc C.prog fn conds apart := by
    funext w args; simp only [and_true]; rfl
  rw [← e]
  obtain ⟨w, tape, i, h1, h2, h3, h4, h5, h6⟩ := witness
  exact returnsInHanded_of_change_and (X := fun _ _ => True) (fun _ _ _ _ _ => trivial) own started noInit hfn ⟨w, tape, i, h1, h2, h3, h4, ⟨⟨h5.1, trivial⟩, h5.2⟩, h6⟩ (fun W base args ds gs before a1 a2 _ a4 _ _ => contract W base args ds gs before a1 a2 a4)
end Go.GB

