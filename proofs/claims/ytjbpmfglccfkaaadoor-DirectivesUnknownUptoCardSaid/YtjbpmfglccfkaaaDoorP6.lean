/-
  YtjbpmfglccfkaaaDoorP6: lemmas of this proof (part 6). No conditions.
-/
import Derived.Test.YtjbpmfglccfkaaaDoorP5
import Derived.Test.YtjbpmfglccfkaaaDoorP3
import Derived.Carry
import Derived.Handed
import Derived.ChangeSame
import Derived.ProofKit
import Derived.OpenShut
import Derived.JoinedCond
import Derived.Deep.CondSized

/-
  F23E: chapter 23's functions: arguments, rules.
-/
namespace Go.GB.C23
open Go.GB Go.GB.C11
set_option linter.unusedSimpArgs false
set_option linter.unusedVariables false
set_option maxRecDepth 100000
set_option maxHeartbeats 4000000
variable {P : Program}

def dV (d : Dir) : V := .agg [.t (.str d.name), .t (.lst (d.args.map Arg.enc))]
theorem argV_ok (H : Pr23 P) (f : FuncId) (d : Dir) (hd : d.args.length ≤ 140737488355328) (a : Str) (hf : f = 56 ∨ f = 57) : FnOk P f [dV d, .t (.str a)] ⟨[], 0⟩ { v := .tup [((argF a d.args).getD Val.zero).v, .t (.bool (argF a d.args).isSome)] } := by
  rcases hf with rfl | rfl
  · refine FnOk.run H.i56 H.mixed rfl rfl ?_
    refine fR rfl ?_
    refine lM rfl rfl rfl ?_
    refine fM rfl ?_
    refine rList d.args (fun i (_ : Unit) => { env := [(1, .t (.str a)), (4, .ptr 1 0), (9, .t (.lst (d.args.map Arg.enc))), (10, .t (.int .i64 d.args.length)), (11, .t (.int .i64 i))], s := ⟨[(1, .cells [.t (.int .i64 0), .t (.int .i64 0), .t (.str []), .nils, .nils])], 2⟩ }) (fun r i _ => argF a d.args = argF a r) 2 () rfl rfl rfl rfl rfl ?_ ?_
    · intro _ hinv
      refine fR rfl ?_
      refine Run.condF rfl rfl (by simp) ?_
      refine fR rfl ?_
      have e : argF a d.args = none := by rw [hinv]; rfl
      rw [e]
      refine Run.fin rfl (EndOk.go ?_); exact .tup2 (.agg (.cons (.t rfl) (.cons (.t rfl) (.cons (.t rfl) (.cons (.nil rfl) (.cons (.nil rfl) .nil)))))) (.t rfl)
    · intro i x r _ h1 hi hdr hinv ih
      refine fR rfl ?_
      refine Run.condT rfl rfl (by simp; omega) ?_
      refine fR rfl ?_
      refine Mid.elemMap rfl rfl rfl h1 rfl rfl ?_
      refine fM rfl ?_
      refine Run.cond rfl rfl (fun h => ?_) (fun h => ?_)
      · have h' : x.name = a := by simpa using h
        refine fR rfl ?_
        have e : argF a d.args = some x.val := by rw [hinv]; simp only [argF]; rw [if_pos h']
        rw [e]
        refine Run.fin rfl (EndOk.go ?_); exact .tup2 (.le (.same rfl)) (.t rfl)
      · have h' : ¬ x.name = a := by simpa using h
        refine fR rfl ?_
        refine aL rfl rfl rfl rfl rfl ?_
        refine fM rfl ?_
        exact rWeak 2 rfl (ih () (by rw [hinv]; simp only [argF]; rw [if_neg h'])) rfl rfl rfl
  · refine FnOk.run H.i57 H.mixed rfl rfl ?_
    refine fR rfl ?_
    refine rList d.args (fun i (_ : Unit) => { env := [(1, .t (.str a)), (2, .ptr 0 0), (4, .ptr 1 0), (6, .t (.int .i64 i))], s := ⟨[(0, .cells [.t (.str d.name), .t (.lst (d.args.map Arg.enc))]), (1, .cells [.t (.int .i64 0), .t (.int .i64 0), .t (.str []), .nils, .nils])], 2⟩ }) (fun r i _ => argF a d.args = argF a r) 2 () rfl rfl rfl rfl rfl ?_ ?_
    · intro _ hinv
      refine fR rfl ?_
      refine lM rfl rfl rfl ?_
      refine fM rfl ?_
      refine Run.condF rfl rfl (by simp) ?_
      refine fR rfl ?_
      have e : argF a d.args = none := by rw [hinv]; rfl
      rw [e]
      refine Run.fin rfl (EndOk.go ?_); exact .tup2 (.agg (.cons (.t rfl) (.cons (.t rfl) (.cons (.t rfl) (.cons (.nil rfl) (.cons (.nil rfl) .nil)))))) (.t rfl)
    · intro i x r _ h1 hi hdr hinv ih
      refine fR rfl ?_
      refine lM rfl rfl rfl ?_
      refine fM rfl ?_
      refine Run.condT rfl rfl (by simp; omega) ?_
      refine fR rfl ?_
      refine Mid.elemMap rfl rfl rfl h1 rfl rfl ?_
      refine fM rfl ?_
      refine Run.cond rfl rfl (fun h => ?_) (fun h => ?_)
      · have h' : x.name = a := by simpa using h
        refine fR rfl ?_
        refine Mid.elemMap rfl rfl rfl h1 rfl rfl ?_
        refine fM rfl ?_
        have e : argF a d.args = some x.val := by rw [hinv]; simp only [argF]; rw [if_pos h']
        rw [e]
        refine Run.fin rfl (EndOk.go ?_); exact .tup2 (.le (.same rfl)) (.t rfl)
      · have h' : ¬ x.name = a := by simpa using h
        refine fR rfl ?_
        refine aL rfl rfl rfl rfl rfl ?_
        refine fM rfl ?_
        exact rWeak 2 rfl (ih () (by rw [hinv]; simp only [argF]; rw [if_neg h'])) rfl rfl rfl
theorem hasD_ok (H : Pr23 P) (f : FuncId) (l : List Dir) (hl : l.length ≤ 140737488355328) (n : Str) (hf : f = 25 ∨ f = 19) : FnOk P f [.t (.lst (l.map Dir.enc)), .t (.str n)] ⟨[], 0⟩ { v := .t (.bool (hasD n l)) } := by
  rcases hf with rfl | rfl
  · refine FnOk.run H.i25 H.mixed rfl rfl ?_
    refine fR rfl ?_
    refine lM rfl rfl rfl ?_
    refine fM rfl ?_
    refine rList l (fun i (_ : Unit) => { env := [(1, .t (.str n)), (7, .t (.lst (l.map Dir.enc))), (8, .t (.int .i64 l.length)), (9, .t (.int .i64 i))], s := ⟨[], 0⟩ }) (fun r i _ => hasD n l = hasD n r) 0 () rfl rfl rfl rfl rfl ?_ ?_
    · intro _ hinv
      refine fR rfl ?_
      refine Run.condF rfl rfl (by simp) ?_
      refine fR rfl ?_
      refine Run.fin rfl (EndOk.go ?_); exact .t (by rw [hinv]; rfl)
    · intro i x r _ h1 hi hdr hinv ih
      refine fR rfl ?_
      refine Run.condT rfl rfl (by simp; omega) ?_
      refine fR rfl ?_
      refine Mid.elemMap rfl rfl rfl h1 rfl rfl ?_
      refine fM rfl ?_
      refine Run.cond rfl rfl (fun h => ?_) (fun h => ?_)
      · refine fR rfl ?_
        refine Run.fin rfl (EndOk.go ?_); exact .t (by rw [hinv]; unfold hasD; rw [List.any_cons, h]; rfl)
      · refine fR rfl ?_
        refine aL rfl rfl rfl rfl rfl ?_
        refine fM rfl ?_
        exact rWeak 0 rfl (ih () (by rw [hinv]; unfold hasD; rw [List.any_cons, h]; rfl)) rfl rfl rfl
  · refine FnOk.run H.i19 H.mixed rfl rfl ?_
    refine fR rfl ?_
    refine rList l (fun i (_ : Unit) => { env := [(0, .t (.lst (l.map Dir.enc))), (1, .t (.str n)), (5, .t (.int .i64 i))], s := ⟨[], 0⟩ }) (fun r i _ => hasD n l = hasD n r) 0 () rfl rfl rfl rfl rfl ?_ ?_
    · intro _ hinv
      refine fR rfl ?_
      refine lM rfl rfl rfl ?_
      refine fM rfl ?_
      refine Run.condF rfl rfl (by simp) ?_
      refine fR rfl ?_
      refine Run.fin rfl (EndOk.go ?_); exact .t (by rw [hinv]; rfl)
    · intro i x r _ h1 hi hdr hinv ih
      refine fR rfl ?_
      refine lM rfl rfl rfl ?_
      refine fM rfl ?_
      refine Run.condT rfl rfl (by simp; omega) ?_
      refine fR rfl ?_
      refine Mid.elemMap rfl rfl rfl h1 rfl rfl ?_
      refine fM rfl ?_
      refine Run.cond rfl rfl (fun h => ?_) (fun h => ?_)
      · refine fR rfl ?_
        refine Run.fin rfl (EndOk.go ?_); exact .t (by rw [hinv]; unfold hasD; rw [List.any_cons, h]; rfl)
      · refine fR rfl ?_
        refine aL rfl rfl rfl rfl rfl ?_
        refine fM rfl ?_
        exact rWeak 0 rfl (ih () (by rw [hinv]; unfold hasD; rw [List.any_cons, h]; rfl)) rfl rfl rfl

/- rules -/
def fnK : Nat → FuncId
  | 0 => 117
  | 1 => 118
  | 2 => 119
  | 3 => 120
  | _ => 121
def PRule.enc (p : PRule) : List T := [.str p.name, .bool p.may, .fn (fnK p.k)]
def Rule.v (r : Rule) : V := .agg [.t (.int .i64 r.places), .t (.bool r.again), .t (.lst (r.params.map PRule.enc))]
def optP : Option PRule → V
  | some p => .agg [.t (.str p.name), .t (.bool p.may), .t (.fn (fnK p.k))]
  | none => .agg [.t (.str []), .t (.bool false), .t .nilf]
def Rule.zero : Rule := ⟨0, false, []⟩
theorem ruleOf_ok (H : Pr23 P) (n : Str) : FnOk P 92 [.t (.str n)] ⟨[], 0⟩ { v := .tup [((ruleF n).getD Rule.zero).v, .t (.bool (ruleF n).isSome)] } := by
  refine FnOk.run H.i92 H.mixed rfl rfl ?_
  refine fR rfl ?_
  refine Run.cond rfl rfl (fun h0 => ?_) (fun h0 => ?_)
  · have h' : n = ([107, 101, 121] : Str) := by simpa using h0
    subst h'
    refine fR rfl ?_
    rw [show ruleF ([107, 101, 121] : Str) = some ⟨1, true, [⟨([102, 105, 101, 108, 100, 115] : Str), false, 0⟩]⟩ from rfl]
    refine Run.fin rfl (EndOk.go ?_); exact .tup2 (.agg (.cons (.t rfl) (.cons (.t rfl) (.cons (.own rfl) .nil)))) (.t rfl)
  · have n0 : ¬ n = ([107, 101, 121] : Str) := by simpa using h0
    refine fR rfl ?_
    refine Run.cond rfl rfl (fun h1 => ?_) (fun h1 => ?_)
    · have h' : n = ([101, 120, 116, 101, 114, 110, 97, 108] : Str) := by simpa using h1
      subst h'
      refine fR rfl ?_
      rw [show ruleF ([101, 120, 116, 101, 114, 110, 97, 108] : Str) = some ⟨4, false, []⟩ from rfl]
      refine Run.fin rfl (EndOk.go ?_); exact .tup2 (.agg (.cons (.t rfl) (.cons (.t rfl) (.cons (.nil rfl) .nil)))) (.t rfl)
    · have n1 : ¬ n = ([101, 120, 116, 101, 114, 110, 97, 108] : Str) := by simpa using h1
      refine fR rfl ?_
      refine Run.cond rfl rfl (fun h2 => ?_) (fun h2 => ?_)
      · have h' : n = ([115, 104, 97, 114, 101, 97, 98, 108, 101] : Str) := by simpa using h2
        subst h'
        refine fR rfl ?_
        rw [show ruleF ([115, 104, 97, 114, 101, 97, 98, 108, 101] : Str) = some ⟨4, false, []⟩ from rfl]
        refine Run.fin rfl (EndOk.go ?_); exact .tup2 (.agg (.cons (.t rfl) (.cons (.t rfl) (.cons (.nil rfl) .nil)))) (.t rfl)
      · have n2 : ¬ n = ([115, 104, 97, 114, 101, 97, 98, 108, 101] : Str) := by simpa using h2
        refine fR rfl ?_
        refine Run.cond rfl rfl (fun h3 => ?_) (fun h3 => ?_)
        · have h' : n = ([105, 110, 97, 99, 99, 101, 115, 115, 105, 98, 108, 101] : Str) := by simpa using h3
          subst h'
          refine fR rfl ?_
          rw [show ruleF ([105, 110, 97, 99, 99, 101, 115, 115, 105, 98, 108, 101] : Str) = some ⟨4, false, []⟩ from rfl]
          refine Run.fin rfl (EndOk.go ?_); exact .tup2 (.agg (.cons (.t rfl) (.cons (.t rfl) (.cons (.nil rfl) .nil)))) (.t rfl)
        · have n3 : ¬ n = ([105, 110, 97, 99, 99, 101, 115, 115, 105, 98, 108, 101] : Str) := by simpa using h3
          refine fR rfl ?_
          refine Run.cond rfl rfl (fun h4 => ?_) (fun h4 => ?_)
          · have h' : n = ([114, 101, 113, 117, 105, 114, 101, 115] : Str) := by simpa using h4
            subst h'
            refine fR rfl ?_
            rw [show ruleF ([114, 101, 113, 117, 105, 114, 101, 115] : Str) = some ⟨4, false, [⟨([102, 105, 101, 108, 100, 115] : Str), false, 0⟩]⟩ from rfl]
            refine Run.fin rfl (EndOk.go ?_); exact .tup2 (.agg (.cons (.t rfl) (.cons (.t rfl) (.cons (.own rfl) .nil)))) (.t rfl)
          · have n4 : ¬ n = ([114, 101, 113, 117, 105, 114, 101, 115] : Str) := by simpa using h4
            refine fR rfl ?_
            refine Run.cond rfl rfl (fun h5 => ?_) (fun h5 => ?_)
            · have h' : n = ([112, 114, 111, 118, 105, 100, 101, 115] : Str) := by simpa using h5
              subst h'
              refine fR rfl ?_
              rw [show ruleF ([112, 114, 111, 118, 105, 100, 101, 115] : Str) = some ⟨4, false, [⟨([102, 105, 101, 108, 100, 115] : Str), false, 0⟩]⟩ from rfl]
              refine Run.fin rfl (EndOk.go ?_); exact .tup2 (.agg (.cons (.t rfl) (.cons (.t rfl) (.cons (.own rfl) .nil)))) (.t rfl)
            · have n5 : ¬ n = ([112, 114, 111, 118, 105, 100, 101, 115] : Str) := by simpa using h5
              refine fR rfl ?_
              refine Run.cond rfl rfl (fun h6 => ?_) (fun h6 => ?_)
              · have h' : n = ([116, 97, 103] : Str) := by simpa using h6
                subst h'
                refine fR rfl ?_
                rw [show ruleF ([116, 97, 103] : Str) = some ⟨31, true, [⟨([110, 97, 109, 101] : Str), false, 1⟩]⟩ from rfl]
                refine Run.fin rfl (EndOk.go ?_); exact .tup2 (.agg (.cons (.t rfl) (.cons (.t rfl) (.cons (.own rfl) .nil)))) (.t rfl)
              · have n6 : ¬ n = ([116, 97, 103] : Str) := by simpa using h6
                refine fR rfl ?_
                refine Run.cond rfl rfl (fun h7 => ?_) (fun h7 => ?_)
                · have h' : n = ([97, 117, 116, 104, 101, 110, 116, 105, 99, 97, 116, 101, 100] : Str) := by simpa using h7
                  subst h'
                  refine fR rfl ?_
                  rw [show ruleF ([97, 117, 116, 104, 101, 110, 116, 105, 99, 97, 116, 101, 100] : Str) = some ⟨13, false, []⟩ from rfl]
                  refine Run.fin rfl (EndOk.go ?_); exact .tup2 (.agg (.cons (.t rfl) (.cons (.t rfl) (.cons (.nil rfl) .nil)))) (.t rfl)
                · have n7 : ¬ n = ([97, 117, 116, 104, 101, 110, 116, 105, 99, 97, 116, 101, 100] : Str) := by simpa using h7
                  refine fR rfl ?_
                  refine Run.cond rfl rfl (fun h8 => ?_) (fun h8 => ?_)
                  · have h' : n = ([115, 99, 111, 112, 101, 115] : Str) := by simpa using h8
                    subst h'
                    refine fR rfl ?_
                    rw [show ruleF ([115, 99, 111, 112, 101, 115] : Str) = some ⟨13, false, [⟨([97, 108, 108] : Str), false, 2⟩]⟩ from rfl]
                    refine Run.fin rfl (EndOk.go ?_); exact .tup2 (.agg (.cons (.t rfl) (.cons (.t rfl) (.cons (.own rfl) .nil)))) (.t rfl)
                  · have n8 : ¬ n = ([115, 99, 111, 112, 101, 115] : Str) := by simpa using h8
                    refine fR rfl ?_
                    refine Run.cond rfl rfl (fun h9 => ?_) (fun h9 => ?_)
                    · have h' : n = ([99, 111, 115, 116] : Str) := by simpa using h9
                      subst h'
                      refine fR rfl ?_
                      rw [show ruleF ([99, 111, 115, 116] : Str) = some ⟨12, false, [⟨([119, 101, 105, 103, 104, 116] : Str), false, 3⟩]⟩ from rfl]
                      refine Run.fin rfl (EndOk.go ?_); exact .tup2 (.agg (.cons (.t rfl) (.cons (.t rfl) (.cons (.own rfl) .nil)))) (.t rfl)
                    · have n9 : ¬ n = ([99, 111, 115, 116] : Str) := by simpa using h9
                      refine fR rfl ?_
                      refine Run.cond rfl rfl (fun h10 => ?_) (fun h10 => ?_)
                      · have h' : n = ([108, 105, 115, 116, 83, 105, 122, 101] : Str) := by simpa using h10
                        subst h'
                        refine fR rfl ?_
                        rw [show ruleF ([108, 105, 115, 116, 83, 105, 122, 101] : Str) = some ⟨12, false, [⟨([97, 115, 115, 117, 109, 101, 100] : Str), false, 3⟩]⟩ from rfl]
                        refine Run.fin rfl (EndOk.go ?_); exact .tup2 (.agg (.cons (.t rfl) (.cons (.t rfl) (.cons (.own rfl) .nil)))) (.t rfl)
                      · have n10 : ¬ n = ([108, 105, 115, 116, 83, 105, 122, 101] : Str) := by simpa using h10
                        refine fR rfl ?_
                        refine Run.cond rfl rfl (fun h11 => ?_) (fun h11 => ?_)
                        · have h' : n = ([99, 97, 99, 104, 101, 67, 111, 110, 116, 114, 111, 108] : Str) := by simpa using h11
                          subst h'
                          refine fR rfl ?_
                          rw [show ruleF ([99, 97, 99, 104, 101, 67, 111, 110, 116, 114, 111, 108] : Str) = some ⟨13, false, [⟨([109, 97, 120, 65, 103, 101] : Str), false, 3⟩, ⟨([112, 114, 105, 118, 97, 116, 101] : Str), true, 4⟩]⟩ from rfl]
                          refine Run.fin rfl (EndOk.go ?_); exact .tup2 (.agg (.cons (.t rfl) (.cons (.t rfl) (.cons (.own rfl) .nil)))) (.t rfl)
                        · have n11 : ¬ n = ([99, 97, 99, 104, 101, 67, 111, 110, 116, 114, 111, 108] : Str) := by simpa using h11
                          refine fR rfl ?_
                          refine Run.cond rfl rfl (fun h12 => ?_) (fun h12 => ?_)
                          · have h' : n = ([100, 101, 112, 114, 101, 99, 97, 116, 101, 100] : Str) := by simpa using h12
                            subst h'
                            refine fR rfl ?_
                            rw [show ruleF ([100, 101, 112, 114, 101, 99, 97, 116, 101, 100] : Str) = some ⟨28, false, [⟨([114, 101, 97, 115, 111, 110] : Str), true, 1⟩]⟩ from rfl]
                            refine Run.fin rfl (EndOk.go ?_); exact .tup2 (.agg (.cons (.t rfl) (.cons (.t rfl) (.cons (.own rfl) .nil)))) (.t rfl)
                          · have n12 : ¬ n = ([100, 101, 112, 114, 101, 99, 97, 116, 101, 100] : Str) := by simpa using h12
                            refine fR rfl ?_
                            have e : ruleF n = none := by
                              unfold ruleF
                              rw [if_neg n0, if_neg n1, if_neg n2, if_neg n3, if_neg n4, if_neg n5, if_neg n6, if_neg n7, if_neg n8, if_neg n9, if_neg n10, if_neg n11, if_neg n12]
                            rw [e]
                            refine Run.fin rfl (EndOk.go ?_); exact .tup2 (.agg (.cons (.t rfl) (.cons (.t rfl) (.cons (.nil rfl) .nil)))) (.t rfl)
theorem param_ok (H : Pr23 P) (r : Rule) (hr : r.params.length ≤ 1000) (a : Str) : FnOk P 93 [r.v, .t (.str a)] ⟨[], 0⟩ { v := .tup [optP (findP a r.params), .t (.bool (findP a r.params).isSome)] } := by
  refine FnOk.run H.i93 H.mixed rfl rfl ?_
  refine fR rfl ?_
  refine lM rfl rfl rfl ?_
  refine fM rfl ?_
  refine rList r.params (fun i (_ : Unit) => { env := [(1, .t (.str a)), (4, .ptr 1 0), (9, .t (.lst (r.params.map PRule.enc))), (10, .t (.int .i64 r.params.length)), (11, .t (.int .i64 i))], s := ⟨[(1, .cells [.t (.str []), .t (.bool false), .t .nilf])], 2⟩ }) (fun q i _ => findP a r.params = findP a q) 2 () rfl rfl rfl rfl rfl ?_ ?_
  · intro _ hinv
    refine fR rfl ?_
    refine Run.condF rfl rfl (by simp) ?_
    refine fR rfl ?_
    have e : findP a r.params = none := by rw [hinv]; rfl
    rw [e]
    refine Run.fin rfl (EndOk.go ?_); exact .tup2 (.agg (.cons (.t rfl) (.cons (.t rfl) (.cons (.t rfl) .nil)))) (.t rfl)
  · intro i x q _ h1 hi hdr hinv ih
    refine fR rfl ?_
    refine Run.condT rfl rfl (by simp; omega) ?_
    refine fR rfl ?_
    refine Mid.elemMap rfl rfl rfl h1 rfl rfl ?_
    refine fM rfl ?_
    refine Run.cond rfl rfl (fun h => ?_) (fun h => ?_)
    · have h' : x.name = a := by simpa using h
      refine fR rfl ?_
      have e : findP a r.params = some x := by rw [hinv]; simp only [findP]; rw [if_pos h']
      rw [e]
      refine Run.fin rfl (EndOk.go ?_); exact .tup2 (.le (.same rfl)) (.t rfl)
    · have h' : ¬ x.name = a := by simpa using h
      refine fR rfl ?_
      refine aL rfl rfl rfl rfl rfl ?_
      refine fM rfl ?_
      exact rWeak 2 rfl (ih () (by rw [hinv]; simp only [findP]; rw [if_neg h'])) rfl rfl rfl

/- values that fit -/
theorem fitsK_ok (H : Pr23 P) (k : Nat) (v : Val) (hv : v.Ok) (ht : v.text.length ≤ 1048576) : FnOk P (fnK k) [v.v] ⟨[], 0⟩ { v := .t (.bool (fitsK k v)) } := by
  have hil := hv.il
  have htc : v.text.count 32 ≤ v.text.length := List.count_le_length
  match k with
  | 0 =>
    refine FnOk.run H.i117 H.mixed rfl rfl ?_
    refine fR rfl ?_
    refine Mid.call (dSet_ok H v.text (by omega) (by omega)) rfl rfl rfl rfl ?_
    refine fM rfl ?_
    refine Run.fin rfl (EndOk.go ?_); exact .t rfl
  | 1 =>
    refine FnOk.run H.i118 H.mixed rfl rfl ?_
    refine fR rfl ?_
    refine Run.fin rfl (EndOk.go ?_); exact .t rfl
  | 2 =>
    refine FnOk.run H.i119 H.mixed rfl rfl ?_
    refine fR rfl ?_
    refine Run.cond rfl rfl (fun h => ?_) (fun h => ?_)
    · refine fR rfl ?_
      refine Run.fin rfl (EndOk.go ?_); exact .t (by
        have : (v.kind == 5) = false := by simpa using h
        show T.bool false = T.bool (v.kind == 5 && v.items.all fun x => x.kind == 3)
        rw [this]; rfl)
    · have hk : (v.kind == 5) = true := by simpa using h
      refine fR rfl ?_
      refine lM rfl rfl rfl ?_
      refine fM rfl ?_
      refine rList v.items (fun i (_ : Unit) => { env := [(9, .t (.lst (v.items.map Val.enc))), (10, .t (.int .i64 v.items.length)), (11, .t (.int .i64 i))], s := ⟨[], 0⟩ }) (fun r i _ => (v.items.all fun x => x.kind == 3) = r.all fun x => x.kind == 3) 0 () rfl rfl rfl rfl rfl ?_ ?_
      · intro _ hinv
        refine fR rfl ?_
        refine Run.condF rfl rfl (by simp) ?_
        refine fR rfl ?_
        refine Run.fin rfl (EndOk.go ?_); exact .t (by
          show T.bool true = T.bool (v.kind == 5 && v.items.all fun x => x.kind == 3)
          rw [hk, hinv]; rfl)
      · intro i x r _ h1 hi hdr hinv ih
        refine fR rfl ?_
        refine Run.condT rfl rfl (by simp; omega) ?_
        refine fR rfl ?_
        refine Mid.elemMapC ((Val.enc_eq x)) rfl rfl rfl h1 rfl rfl ?_
        refine fM rfl ?_
        refine Run.cond rfl rfl (fun hc => ?_) (fun hc => ?_)
        · have hc' : (x.kind == 3) = false := by simpa using hc
          refine fR rfl ?_
          refine Run.fin rfl (EndOk.go ?_); exact .t (by
            show T.bool false = T.bool (v.kind == 5 && v.items.all fun x => x.kind == 3)
            rw [hk, hinv, List.all_cons, hc']; rfl)
        · have hc' : (x.kind == 3) = true := by simpa using hc
          refine fR rfl ?_
          refine aL rfl rfl rfl rfl rfl ?_
          refine fM rfl ?_
          exact rWeak 0 rfl (ih () (by rw [hinv, List.all_cons, hc']; rfl)) rfl rfl rfl
  | 3 =>
    refine FnOk.run H.i120 H.mixed rfl rfl ?_
    refine fR rfl ?_
    refine Run.fin rfl (EndOk.go ?_); exact .t rfl
  | n + 4 =>
    refine FnOk.run H.i121 H.mixed rfl rfl ?_
    refine fR rfl ?_
    refine Run.fin rfl (EndOk.go ?_); exact .t rfl
end Go.GB.C23


/-
  F23F: chapter 23's functions: the reference's arguments and places.
-/
namespace Go.GB.C23
open Go.GB Go.GB.C11
set_option linter.unusedSimpArgs false
set_option linter.unusedVariables false
set_option maxRecDepth 100000
set_option maxHeartbeats 4000000
variable {P : Program}

def glue (p : Str) : List Str → List Str
  | [] => [p]
  | h :: t => (p ++ h) :: t
structure SrOk (s : Str) (out : List Str) (fr i : Nat) : Prop where
  le : i ≤ s.length + 1
  fl : fr ≤ i
  ol : out.length ≤ i
  go : i ≤ s.length → splS s = out ++ glue ((s.take i).drop fr) (splS (s.drop i))
  en : i = s.length + 1 → splS s = out
end Go.GB.C23


/-
  F23G: chapter 23's functions: the reference's sets, values that fit, arguments.
-/
namespace Go.GB.C23
open Go.GB Go.GB.C11
set_option linter.unusedSimpArgs false
set_option linter.unusedVariables false
set_option maxRecDepth 100000
set_option maxHeartbeats 4000000
variable {P : Program}

/-- directives whose texts are not long -/
structure DOk (d : Dir) : Prop where
  l : d.args.length ≤ 140737488355328
  nm : d.name.length ≤ 140737488355328
  an : ∀ a, a ∈ d.args → a.name.length ≤ 140737488355328 ∧ a.val.Ok ∧ a.val.text.length ≤ 1048576
end Go.GB.C23


/-
  F23H: chapter 23's functions: judging uses of directives.
-/
namespace Go.GB.C23
open Go.GB Go.GB.C11
set_option linter.unusedSimpArgs false
set_option linter.unusedVariables false
set_option maxRecDepth 100000
set_option maxHeartbeats 4000000
variable {P : Program}

theorem rule_len {n : Str} {r : Rule} (h : ruleF n = some r) : r.params.length ≤ 1000 := by
  rcases ruleF_some h with ⟨rfl, rfl⟩ | ⟨rfl, rfl⟩ | ⟨rfl, rfl⟩ | ⟨rfl, rfl⟩ | ⟨rfl, rfl⟩ | ⟨rfl, rfl⟩ | ⟨rfl, rfl⟩ | ⟨rfl, rfl⟩ | ⟨rfl, rfl⟩ | ⟨rfl, rfl⟩ | ⟨rfl, rfl⟩ | ⟨rfl, rfl⟩ | ⟨rfl, rfl⟩ <;> simp
theorem judge_ok (H : Pr23 P) (l : List Dir) (hl : l.length ≤ 140737488355328) (i : Nat) (x : Dir) (hx : l[i]? = some x) (hd : DOk x) (pl : Int) : FnOk P 73 [.t (.lst (l.map Dir.enc)), .t (.int .i64 i), .t (.int .i64 pl)] ⟨[], 0⟩ { v := .t (.int .i64 (judgeF (l.take i) x pl)) } := by
  have hal := hd.l
  have hi := (List.getElem?_eq_some_iff.1 hx).1
  have hR : ∀ R, judgeF (l.take i) x pl = R → FnOk P 73 [.t (.lst (l.map Dir.enc)), .t (.int .i64 i), .t (.int .i64 pl)] ⟨[], 0⟩ { v := .t (.int .i64 R) } := by
    intro R hR
    unfold judgeF at hR
    have hro := ruleOf_ok H x.name
    refine FnOk.run H.i73 H.mixed rfl rfl ?_
    refine fR rfl ?_
    refine Mid.elemMap rfl rfl rfl hx rfl rfl ?_
    refine fM rfl ?_
    cases hr : ruleF x.name with
    | none =>
      rw [hr] at hro hR
      subst hR
      refine Mid.call (hro) rfl rfl rfl rfl ?_
      refine fM rfl ?_
      refine Run.condT rfl rfl rfl ?_
      refine fR rfl ?_
      refine Run.fin rfl (EndOk.go ?_); exact .t rfl
    | some r =>
      have hrl := rule_len hr
      rw [hr] at hro hR
      simp only at hR
      refine Mid.call (hro) rfl rfl rfl rfl ?_
      refine fM rfl ?_
      refine Run.cond rfl rfl (fun h1 => ?_) (fun h1 => ?_)
      · have h1' : atP r.places pl = false := by
          unfold atP
          have h2 : (andI .i64 r.places pl == 0) = true := by simpa using h1
          simp only [bne, h2]; rfl
        rw [if_pos h1'] at hR
        subst hR
        refine fR rfl ?_
        refine Run.fin rfl (EndOk.go ?_); exact .t rfl
      · have h1' : ¬ atP r.places pl = false := by
          unfold atP
          have h2 : (andI .i64 r.places pl == 0) = false := by simpa using h1
          simp only [bne, h2]; simp
        rw [if_neg h1'] at hR
        refine fR rfl ?_
        refine lToG rfl rfl rfl rfl rfl ?_
        refine fM rfl ?_
        refine caG rfl rfl (fun hg => ⟨_, rfl, hasD_ok H 25 (l.take i) (by rw [List.length_take]; omega) x.name (.inl rfl), rfl⟩) rfl rfl ?_
        refine fM rfl ?_
        refine Run.cond rfl rfl (fun h2 => ?_) (fun h2 => ?_)
        · have h2' : (!r.again && hasD x.name (l.take i)) = true := h2
          rw [if_pos h2'] at hR
          subst hR
          refine fR rfl ?_
          refine Run.fin rfl (EndOk.go ?_); exact .t rfl
        · have h2' : ¬ (!r.again && hasD x.name (l.take i)) = true := by rw [show (!r.again && hasD x.name (l.take i)) = false from h2]; simp
          rw [if_neg h2'] at hR
          unfold argsE at hR
          refine fR rfl ?_
          refine lM rfl rfl rfl ?_
          refine fM rfl ?_
          refine rList x.args (fun k (_ : Unit) => { env := [(7, .ptr 0 0), (8, .ptr 1 0), (57, .t (.lst (x.args.map Arg.enc))), (58, .t (.int .i64 x.args.length)), (59, .t (.int .i64 k))], s := ⟨[(0, .cells [.t (.str x.name), .t (.lst (x.args.map Arg.enc))]), (1, .cells [.t (.int .i64 r.places), .t (.bool r.again), .t (.lst (r.params.map PRule.enc))])], 2⟩ }) (fun q k _ => badA r.params [] x.args = badA r.params (x.args.take k) q) 2 () rfl rfl rfl rfl rfl ?_ ?_
          · intro _ hinv
            have hb : badA r.params [] x.args = false := by rw [hinv]; rfl
            rw [if_neg (by rw [hb]; simp)] at hR
            refine fR rfl ?_
            refine Run.condF rfl rfl (by simp) ?_
            refine fR rfl ?_
            refine lM rfl rfl rfl ?_
            refine fM rfl ?_
            refine rList r.params (fun k (_ : Unit) => { env := [(7, .ptr 0 0), (8, .ptr 1 0), (87, .t (.lst (r.params.map PRule.enc))), (88, .t (.int .i64 r.params.length)), (89, .t (.int .i64 k))], s := ⟨[(0, .cells [.t (.str x.name), .t (.lst (x.args.map Arg.enc))]), (1, .cells [.t (.int .i64 r.places), .t (.bool r.again), .t (.lst (r.params.map PRule.enc))])], 2⟩ }) (fun q k _ => missA r.params x.args = q.any fun p => !(argF p.name x.args).isSome && !p.may) 2 () rfl rfl rfl rfl rfl ?_ ?_
            · intro _ hm
              rw [if_neg (by rw [hm]; simp)] at hR
              refine fR rfl ?_
              refine Run.condF rfl rfl (by simp) ?_
              refine fR rfl ?_
              refine lM rfl rfl rfl ?_
              refine fM rfl ?_
              refine rList x.args (fun k (_ : Unit) => { env := [(8, .ptr 1 0), (109, .t (.lst (x.args.map Arg.enc))), (110, .t (.int .i64 x.args.length)), (111, .t (.int .i64 k))], s := ⟨[(1, .cells [.t (.int .i64 r.places), .t (.bool r.again), .t (.lst (r.params.map PRule.enc))])], 2⟩ }) (fun q k _ => unfitA r.params x.args = unfitA r.params q) 2 () rfl rfl rfl rfl rfl ?_ ?_
              · intro _ hu
                rw [if_neg (by rw [hu]; simp [unfitA])] at hR
                subst hR
                refine fR rfl ?_
                refine Run.condF rfl rfl (by simp) ?_
                refine fR rfl ?_
                refine Run.fin rfl (EndOk.go ?_); exact .t rfl
              · intro k y q _ g1 gi gd hu ih
                have hy := hd.an y (List.mem_of_getElem? g1)
                have hfd := bad_found hb y (List.mem_of_getElem? g1)
                have hpo := param_ok H r hrl y.name
                cases hf : findP y.name r.params with
                | none => rw [hf] at hfd; cases hfd
                | some p =>
                  rw [hf] at hpo
                  refine fR rfl ?_
                  refine Run.condT rfl rfl (by simp; omega) ?_
                  refine fR rfl ?_
                  refine Mid.elemMap rfl rfl rfl g1 rfl rfl ?_
                  refine fM rfl ?_
                  refine Mid.call (hpo) rfl rfl rfl rfl ?_
                  refine fM rfl ?_
                  refine Mid.callv0 rfl (fitsK_ok H p.k y.val hy.2.1 hy.2.2) rfl rfl rfl rfl ?_
                  refine fM rfl ?_
                  refine Run.cond rfl rfl (fun hc => ?_) (fun hc => ?_)
                  · rw [if_pos (by rw [hu, unfitA, List.any_cons, hf]; show ((!fitsK p.k y.val) || _) = true; rw [show (!fitsK p.k y.val) = true from hc]; rfl)] at hR
                    subst hR
                    refine fR rfl ?_
                    refine Run.fin rfl (EndOk.go ?_); exact .t rfl
                  · refine fR rfl ?_
                    refine aL rfl rfl rfl rfl rfl ?_
                    refine fM rfl ?_
                    exact rWeak 2 rfl (ih () (by rw [hu, unfitA, List.any_cons, hf]; show ((!fitsK p.k y.val) || _) = _; rw [show (!fitsK p.k y.val) = false from hc]; rfl)) rfl rfl rfl
            · intro k p q _ g1 gi gd hm ih
              refine fR rfl ?_
              refine Run.condT rfl rfl (by simp; omega) ?_
              refine fR rfl ?_
              refine Mid.elemMap rfl rfl rfl g1 rfl rfl ?_
              refine fM rfl ?_
              refine Mid.call (argV_ok H 56 x hal p.name (.inl rfl)) rfl rfl rfl rfl ?_
              refine fM rfl ?_
              refine Run.cond rfl rfl (fun hc => ?_) (fun hc => ?_)
              · rw [if_pos (by rw [hm, List.any_cons, show (!(argF p.name x.args).isSome && !p.may) = true from hc]; rfl)] at hR
                subst hR
                refine fR rfl ?_
                refine Run.fin rfl (EndOk.go ?_); exact .t rfl
              · refine fR rfl ?_
                refine aL rfl rfl rfl rfl rfl ?_
                refine fM rfl ?_
                exact rWeak 2 rfl (ih () (by rw [hm, List.any_cons, show (!(argF p.name x.args).isSome && !p.may) = false from hc]; rfl)) rfl rfl rfl
          · intro k y q _ g1 gi gd hinv ih
            have hy := hd.an y (List.mem_of_getElem? g1)
            have htk : x.args.take k ++ [y] = x.args.take (k + 1) := by rw [List.take_add_one, g1]; rfl
            have hav := argV_ok H 56 ⟨[], x.args.take k⟩ (by show (x.args.take k).length ≤ _; rw [List.length_take]; omega) y.name (.inl rfl)
            have hpo := param_ok H r hrl y.name
            refine fR rfl ?_
            refine Run.condT rfl rfl (by simp; omega) ?_
            refine fR rfl ?_
            refine Mid.elemMap rfl rfl rfl g1 rfl rfl ?_
            refine fM rfl ?_
            cases hf : findP y.name r.params with
            | none =>
              rw [hf] at hpo
              rw [if_pos (by rw [hinv, badA, hf]; rfl)] at hR
              subst hR
              refine Mid.call (hpo) rfl rfl rfl rfl ?_
              refine fM rfl ?_
              refine Run.condT rfl rfl rfl ?_
              refine fR rfl ?_
              refine Run.fin rfl (EndOk.go ?_); exact .t rfl
            | some p =>
              rw [hf] at hpo
              refine Mid.call (hpo) rfl rfl rfl rfl ?_
              refine fM rfl ?_
              refine Run.condF rfl rfl rfl ?_
              refine fR rfl ?_
              refine lTo rfl rfl rfl rfl ?_
              refine fM rfl ?_
              refine Mid.call (hav) rfl rfl rfl rfl ?_
              refine fM rfl ?_
              refine Run.cond rfl rfl (fun hc => ?_) (fun hc => ?_)
              · rw [if_pos (by rw [hinv, badA, hf, show (argF y.name (x.args.take k)).isSome = true from hc]; rfl)] at hR
                subst hR
                refine fR rfl ?_
                refine Run.fin rfl (EndOk.go ?_); exact .t rfl
              · refine fR rfl ?_
                refine aL rfl rfl rfl rfl rfl ?_
                refine fM rfl ?_
                exact rWeak 2 rfl (ih () (by rw [hinv, badA, hf, show (argF y.name (x.args.take k)).isSome = false from hc, ← htk]; rfl)) rfl rfl rfl
  exact hR _ rfl
/-- lists of uses whose texts are not long -/
structure DsOk (l : List Dir) : Prop where
  len : l.length ≤ 2199023255552
  all : ∀ d, d ∈ l → DOk d
theorem uses_ok (H : Pr23 P) (out : List Fault) (l : List Dir) (hd : DsOk l) (pl : Int) (at_ : Str) (hl : out.length + l.length ≤ 4398046511104) : FnOk P 52 [.own 0 2 (out.map Fault.enc), .t (.lst (l.map Dir.enc)), .t (.int .i64 pl), .t (.str at_)] ⟨[(0, .arr out.length)], 1⟩ { v := .own 0 2 ((out ++ usesF pl at_ [] l).map Fault.enc), ob := [(0, .arr (out ++ usesF pl at_ [] l).length)], rd := true } := by
  have hll := hd.len
  have hR : ∀ R, out ++ usesF pl at_ [] l = R → FnOk P 52 [.own 0 2 (out.map Fault.enc), .t (.lst (l.map Dir.enc)), .t (.int .i64 pl), .t (.str at_)] ⟨[(0, .arr out.length)], 1⟩ { v := .own 0 2 (R.map Fault.enc), ob := [(0, .arr R.length)], rd := true } := by
    intro R hR
    refine FnOk.run H.i52 H.mixed rfl rfl ?_
    refine fR rfl ?_
    refine lM rfl rfl rfl ?_
    refine fM rfl ?_
    refine rList l (fun i (B : List Fault) => { env := [(0, .own 0 2 (B.map Fault.enc)), (1, .t (.lst (l.map Dir.enc))), (2, .t (.int .i64 pl)), (3, .t (.str at_)), (12, .t (.int .i64 l.length)), (13, .t (.int .i64 i))], s := ⟨[(0, .arr B.length)], 1⟩ }) (fun r i B => B.length ≤ out.length + i ∧ B ++ usesF pl at_ (l.take i) r = R) 1 out rfl ⟨by simp, hR⟩ rfl rfl rfl ?_ ?_
    · rintro B ⟨_, hB⟩
      have hB' : B = R := by rw [← hB]; simp [usesF]
      subst hB'
      refine fR rfl ?_
      refine Run.condF rfl rfl (by simp) ?_
      refine fR rfl ?_
      refine Run.fin rfl (EndOk.chg rfl rfl ?_ ?_)
      · exact .le (.same rfl)
      · exact (by repeat' (first | exact trivial | exact LeX.t | exact LeX.top | exact LeX.nilOwn (Nat.le_of_ble_eq_true rfl) (Nat.le_of_ble_eq_true rfl) | exact LeX.ownT | exact LeX.nilT | exact LeX.same rfl | exact LeX.tEq (by simp) | exact LeX.ownEq (by simp) (Nat.le_of_ble_eq_true rfl) | exact LeX.tEq (by congr 1 <;> omega) | exact Or.inr ⟨Nat.le_of_ble_eq_true rfl, Nat.le_of_ble_eq_true rfl, rfl⟩ | refine Or.inl ⟨Nat.le_of_ble_eq_true rfl, _, rfl, ?_⟩ | refine LeO.cells ?_ | exact LeO.arr rfl | exact LeO.arr (by simp) | exact LeO.mE (by first | rfl | simp) (by first | exact Or.inl rfl | exact Or.inr rfl) | exact LeO.cE (by first | rfl | simp) | exact LeXs.cE (by first | rfl | simp) | refine LeO.map (by first | rfl | simp) ?_ (by first | exact Or.inl rfl | exact Or.inr rfl) | exact LeO.iter (by first | rfl | simp) (Nat.le_of_ble_eq_true rfl) | refine LeXs.cons ?_ ?_ | exact LeXs.nil | refine And.intro ?_ ?_))
    · rintro i x r B h1 hi hdr ⟨hBl, hB⟩ ih
      have hBl' : B.length ≤ out.length + i := hBl
      have hx := hd.all x (List.mem_of_getElem? h1)
      have htk : l.take i ++ [x] = l.take (i + 1) := by rw [List.take_add_one, h1]; rfl
      rw [usesF, htk] at hB
      refine fR rfl ?_
      refine Run.condT rfl rfl (by simp; omega) ?_
      refine fR rfl ?_
      refine Mid.call (judge_ok H l (by omega) i x h1 hx pl) rfl rfl rfl rfl ?_
      refine fM rfl ?_
      refine Run.cond rfl rfl (fun hc => ?_) (fun hc => ?_)
      · have hc' : ¬ judgeF (l.take i) x pl = 0 := by simpa using hc
        rw [if_neg hc'] at hB
        refine fR rfl ?_
        refine apM Fault.enc B [(⟨judgeF (l.take i) x pl, at_⟩ : Fault)] rfl rfl rfl rfl rfl ?_ (h1 := by first | omega | (simp; omega) | (simp; done)) (h2 := by first | omega | (simp; omega) | (simp; done))
        refine fM rfl ?_
        refine aL rfl rfl rfl rfl rfl ?_
        refine fM rfl ?_
        exact rWeak 1 rfl (ih (B ++ [⟨judgeF (l.take i) x pl, at_⟩]) ⟨by simp; omega, by rw [List.append_assoc]; exact hB⟩) rfl rfl rfl
      · have hc' : judgeF (l.take i) x pl = 0 := by simpa using hc
        rw [if_pos hc', List.nil_append] at hB
        refine fR rfl ?_
        refine aL rfl rfl rfl rfl rfl ?_
        refine fM rfl ?_
        exact rWeak 1 rfl (ih B ⟨by omega, hB⟩) rfl rfl rfl
  exact hR _ rfl
end Go.GB.C23


/-
  F23I: chapter 23's functions: violations of documents, both ways.
-/
namespace Go.GB.C23
open Go.GB Go.GB.C11
set_option linter.unusedSimpArgs false
set_option linter.unusedVariables false
set_option maxRecDepth 100000
set_option maxHeartbeats 4000000
variable {P : Program}
/-- documents whose texts are not long -/
structure InpD (a : Input) : Prop where
  nm : a.name.length ≤ 140737488355328
  d : DsOk a.dirs
structure FldD (f : Field) : Prop where
  nm : f.name.length ≤ 140737488355328
  d : DsOk f.dirs
  al : f.args.length ≤ 140737488355328
  a : ∀ x, x ∈ f.args → InpD x
structure MemD (m : Member) : Prop where
  nm : m.name.length ≤ 140737488355328
  d : DsOk m.dirs
structure DefD (t : Def) : Prop where
  nm : t.name.length ≤ 140737488355328
  d : DsOk t.dirs
  fl : t.fields.length ≤ 549755813888
  f : ∀ x, x ∈ t.fields → FldD x
  ml : t.members.length ≤ 549755813888
  m : ∀ x, x ∈ t.members → MemD x
  il : t.inputs.length ≤ 549755813888
  i : ∀ x, x ∈ t.inputs → InpD x
def plK (k : Int) : Int := if k = 2 then 8 else 4
theorem partL1 {t : Def} (h : t.kind = 1 ∨ t.kind = 2) : partL t = fldL t.name (plK t.kind) t.fields := by
  unfold partL plK
  rcases h with h | h <;> simp [h]
theorem partL3 {t : Def} (h : t.kind = 3) : partL t = memL t.name 0 t.members := by unfold partL; simp [h]
theorem partL4 {t : Def} (h : t.kind = 4) : partL t = memL t.name 16 t.members := by unfold partL; simp [h]
theorem partL5 {t : Def} (h : t.kind = 5) : partL t = inpL t.name t.inputs := by unfold partL; simp [h]
theorem partL0 {t : Def} (h1 : ¬ t.kind = 1) (h2 : ¬ t.kind = 2) (h3 : ¬ t.kind = 3) (h4 : ¬ t.kind = 4) (h5 : ¬ t.kind = 5) : partL t = [] := by unfold partL; simp [h1, h2, h3, h4, h5]
end Go.GB.C23


/-
  F23K: chapter 23's functions: the directives without those of subgraphs; values found.
-/
namespace Go.GB.C23
open Go.GB Go.GB.C11
set_option linter.unusedSimpArgs false
set_option linter.unusedVariables false
set_option maxRecDepth 100000
set_option maxHeartbeats 4000000
variable {P : Program}
/-- the value of an argument of the first of the uses by a name -/
def argD (n a : Str) : List Dir → Option Val
  | [] => none
  | d :: r => if d.name = n then argF a d.args else argD n a r
structure AOk (l : List Dir) : Prop where
  len : l.length ≤ 1099511627776
  all : ∀ d, d ∈ l → d.args.length ≤ 140737488355328
end Go.GB.C23


/-
  F23J: chapter 23's functions: the program's check of directives.
-/
namespace Go.GB.C23
open Go.GB Go.GB.C11
set_option linter.unusedSimpArgs false
set_option linter.unusedVariables false
set_option maxRecDepth 100000
set_option maxHeartbeats 4000000
variable {P : Program}

theorem chk_ok (H : Pr23 P) (ds : List Def) (hdl : ds.length ≤ 140737488355328) (hD : ∀ t, t ∈ ds → DefD t) (hl : (chkD ds).length ≤ 2199023255552) : FnOk P 17 [docV ds] ⟨[], 0⟩ { v := .t (.lst ((chkD ds).map Fault.enc)) } := by
  have hR : ∀ R, chkD ds = R → R.length ≤ 2199023255552 → FnOk P 17 [docV ds] ⟨[], 0⟩ { v := .t (.lst (R.map Fault.enc)) } := by
    intro R hR hl
    refine FnOk.run H.i17 H.mixed rfl rfl ?_
    refine fR rfl ?_
    refine lM rfl rfl rfl ?_
    refine fM rfl ?_
    refine rList ds (fun i (B : List Fault) => { env := [(3, .own 1 2 (B.map Fault.enc)), (18, .t (.lst (ds.map Def.enc))), (19, .t (.int .i64 ds.length)), (20, .t (.int .i64 i))], s := ⟨[(1, .arr B.length)], 2⟩ }) (fun r i B => B ++ chkD r = R) 1 [] rfl hR rfl rfl rfl ?_ ?_
    · rintro B hB
      have hB' : B = R := by rw [← hB]; simp [chkD]
      subst hB'
      refine fR rfl ?_
      refine Run.condF rfl rfl (by simp) ?_
      refine fR rfl ?_
      refine Run.fin rfl (EndOk.go ?_); exact .own rfl
    · rintro i t r B h1 hi hdr hB ih
      have ht := hD t (List.mem_of_getElem? h1)
      have hnm := ht.nm
      have hdd := ht.d.len
      have hlen := congrArg List.length hB
      simp only [chkD, defL, List.length_append] at hlen
      have hB2 : (B ++ usesF (ownP t.kind) t.name [] t.dirs) ++ partL t ++ chkD r = R := by rw [← hB]; simp [chkD, defL]
      refine fR rfl ?_
      refine Run.condT rfl rfl (by simp; omega) ?_
      refine fR rfl ?_
      refine Mid.elemMap rfl rfl rfl h1 rfl rfl ?_
      refine fM rfl ?_
      by_cases k1 : t.kind = 1
      · have ho : ownP t.kind = 1 := by unfold ownP; rw [if_pos k1]
        rw [ho] at hB2 hlen
        rw [partL1 (.inl k1), plK, if_neg (by omega)] at hB2 hlen
        refine Run.condT rfl rfl (by simp [k1]) ?_
        refine fR rfl ?_
        refine Mid.callO [1] (uses_ok H B t.dirs ht.d 1 t.name (by omega)) rfl rfl rfl rfl (by simp [stoBd]; simp [AObj.bd]) (by repeat' (first | exact trivial | exact rfl | refine And.intro ?_ ?_ | exact (congrArg some (AObj.ren_mE _ _ _ _ _ _)).symm | exact (congrArg some (AObj.ren_cE _ _ _)).symm)) rfl rfl (ob' := [(1, .arr (B ++ usesF 1 t.name [] t.dirs).length)]) (rfl) rfl rfl ?_
        refine fM rfl ?_
        refine Run.condT rfl rfl (by simp [k1]) ?_
        refine Run.condT rfl rfl (by simp [k1]) ?_
        have hfl := ht.fl
        refine fR rfl ?_
        refine lM rfl rfl rfl ?_
        refine fM rfl ?_
        refine rList t.fields (fun j (C : List Fault) => { env := [(3, .own 1 2 (C.map Fault.enc)), (5, .ptr 2 0), (7, .t (.int .i64 4)), (18, .t (.lst (ds.map Def.enc))), (19, .t (.int .i64 ds.length)), (20, .t (.int .i64 i)), (45, .t (.lst (t.fields.map Field.enc))), (46, .t (.int .i64 t.fields.length)), (47, .t (.int .i64 j))], s := ⟨[(1, .arr C.length), (2, (.cells [.t (.int .i64 t.kind), .t (.str t.name), .t (.lst (t.implements.map sE)), .t (.lst (t.dirs.map Dir.enc)), .t (.lst (t.fields.map Field.enc)), .t (.lst (t.members.map Member.enc)), .t (.lst (t.inputs.map Input.enc))]))], 3⟩ }) (fun r2 j C => C ++ (fldL t.name 4 r2 ++ chkD r) = R) 3 (B ++ usesF 1 t.name [] t.dirs) rfl (by rw [← hB2]; simp) rfl rfl rfl ?_ ?_
        · rintro C hC
          refine fR rfl ?_
          refine Run.condF rfl rfl (by simp) ?_
          refine fR rfl ?_
          refine aL rfl rfl rfl rfl rfl ?_
          refine fM rfl ?_
          exact rWeak 2 rfl (ih C (by rw [← hC]; simp [fldL])) rfl rfl rfl
        · rintro j x r2 C h2 hj hjd hC ih2
          have hx := ht.f x (List.mem_of_getElem? h2)
          have hxn := hx.nm
          have hxd := hx.d.len
          have hal := hx.al
          have hlen2 := congrArg List.length hC
          simp only [fldL, List.length_append] at hlen2
          refine fR rfl ?_
          refine Run.condT rfl rfl (by simp; omega) ?_
          refine fR rfl ?_
          refine Mid.elemMap rfl rfl rfl h2 rfl rfl ?_
          refine fM rfl ?_
          refine pu rfl ?_
          refine fM rfl ?_
          refine pu rfl ?_
          refine fM rfl ?_
          refine Mid.callO [1] (uses_ok H C x.dirs hx.d 4 (t.name ++ [46] ++ x.name) (by omega)) rfl rfl rfl rfl (by simp [stoBd]; simp [AObj.bd]) (by repeat' (first | exact trivial | exact rfl | refine And.intro ?_ ?_ | exact (congrArg some (AObj.ren_mE _ _ _ _ _ _)).symm | exact (congrArg some (AObj.ren_cE _ _ _)).symm)) rfl rfl (ob' := [(1, .arr (C ++ usesF 4 (t.name ++ [46] ++ x.name) [] x.dirs).length)]) (rfl) rfl rfl ?_
          refine fM rfl ?_
          refine lM rfl rfl rfl ?_
          refine fM rfl ?_
          refine rList x.args (fun m (D : List Fault) => { env := [(3, .own 1 2 (D.map Fault.enc)), (5, .ptr 2 0), (7, .t (.int .i64 4)), (10, .t (.str (t.name ++ [46] ++ x.name))), (18, .t (.lst (ds.map Def.enc))), (19, .t (.int .i64 ds.length)), (20, .t (.int .i64 i)), (45, .t (.lst (t.fields.map Field.enc))), (46, .t (.int .i64 t.fields.length)), (47, .t (.int .i64 j)), (64, .t (.lst (x.args.map Input.enc))), (65, .t (.int .i64 x.args.length)), (66, .t (.int .i64 m))], s := ⟨[(1, .arr D.length), (2, (.cells [.t (.int .i64 t.kind), .t (.str t.name), .t (.lst (t.implements.map sE)), .t (.lst (t.dirs.map Dir.enc)), .t (.lst (t.fields.map Field.enc)), .t (.lst (t.members.map Member.enc)), .t (.lst (t.inputs.map Input.enc))]))], 4⟩ }) (fun r3 m D => D ++ (argL (t.name ++ [46] ++ x.name) r3 ++ (fldL t.name 4 r2 ++ chkD r)) = R) 4 (C ++ usesF 4 (t.name ++ [46] ++ x.name) [] x.dirs) rfl (by rw [← hC]; simp [fldL]) rfl rfl rfl ?_ ?_
          · rintro D hD2
            refine fR rfl ?_
            refine Run.condF rfl rfl (by simp) ?_
            refine fR rfl ?_
            refine aL rfl rfl rfl rfl rfl ?_
            refine fM rfl ?_
            exact rWeak 3 rfl (ih2 D (by rw [← hD2]; simp [argL])) rfl rfl rfl
          · rintro m a r3 D h3 hm hmd hD2 ih3
            have ha := hx.a a (List.mem_of_getElem? h3)
            have han := ha.nm
            have had := ha.d.len
            have hlen3 := congrArg List.length hD2
            simp only [argL, List.length_append] at hlen3
            refine fR rfl ?_
            refine Run.condT rfl rfl (by simp; omega) ?_
            refine fR rfl ?_
            refine Mid.elemMap rfl rfl rfl h3 rfl rfl ?_
            refine fM rfl ?_
            refine pu rfl ?_
            refine fM rfl ?_
            refine pu rfl ?_
            refine pu rfl ?_
            refine Mid.callO [1] (uses_ok H D a.dirs ha.d 0 (t.name ++ [46] ++ x.name ++ [40] ++ a.name ++ [41]) (by omega)) rfl rfl rfl rfl (by simp [stoBd]; simp [AObj.bd]) (by repeat' (first | exact trivial | exact rfl | refine And.intro ?_ ?_ | exact (congrArg some (AObj.ren_mE _ _ _ _ _ _)).symm | exact (congrArg some (AObj.ren_cE _ _ _)).symm)) rfl rfl (ob' := [(1, .arr (D ++ usesF 0 (t.name ++ [46] ++ x.name ++ [40] ++ a.name ++ [41]) [] a.dirs).length)]) (rfl) rfl rfl ?_
            refine fM rfl ?_
            refine aL rfl rfl rfl rfl rfl ?_
            refine fM rfl ?_
            exact rWeak 4 rfl (ih3 (D ++ usesF 0 (t.name ++ [46] ++ x.name ++ [40] ++ a.name ++ [41]) [] a.dirs) (by rw [← hD2]; simp [argL])) rfl rfl rfl
      · have ho : ownP t.kind = 2 := by unfold ownP; rw [if_neg k1]
        rw [ho] at hB2 hlen
        refine Run.condF rfl rfl (by simp [k1]) ?_
        refine fR rfl ?_
        by_cases k2 : t.kind = 2
        · rw [partL1 (.inr k2), plK, if_pos k2] at hB2 hlen
          refine Run.condT rfl rfl (by simp [k2]) ?_
          refine fR rfl ?_
          refine Mid.callO [1] (uses_ok H B t.dirs ht.d 2 t.name (by omega)) rfl rfl rfl rfl (by simp [stoBd]; simp [AObj.bd]) (by repeat' (first | exact trivial | exact rfl | refine And.intro ?_ ?_ | exact (congrArg some (AObj.ren_mE _ _ _ _ _ _)).symm | exact (congrArg some (AObj.ren_cE _ _ _)).symm)) rfl rfl (ob' := [(1, .arr (B ++ usesF 2 t.name [] t.dirs).length)]) (rfl) rfl rfl ?_
          refine fM rfl ?_
          refine Run.condF rfl rfl (by simp [k1]) ?_
          refine fR rfl ?_
          refine Run.condT rfl rfl (by simp [k2]) ?_
          have hfl := ht.fl
          refine fR rfl ?_
          refine lM rfl rfl rfl ?_
          refine fM rfl ?_
          refine rList t.fields (fun j (C : List Fault) => { env := [(3, .own 1 2 (C.map Fault.enc)), (5, .ptr 2 0), (7, .t (.int .i64 8)), (18, .t (.lst (ds.map Def.enc))), (19, .t (.int .i64 ds.length)), (20, .t (.int .i64 i)), (45, .t (.lst (t.fields.map Field.enc))), (46, .t (.int .i64 t.fields.length)), (47, .t (.int .i64 j))], s := ⟨[(1, .arr C.length), (2, (.cells [.t (.int .i64 t.kind), .t (.str t.name), .t (.lst (t.implements.map sE)), .t (.lst (t.dirs.map Dir.enc)), .t (.lst (t.fields.map Field.enc)), .t (.lst (t.members.map Member.enc)), .t (.lst (t.inputs.map Input.enc))]))], 3⟩ }) (fun r2 j C => C ++ (fldL t.name 8 r2 ++ chkD r) = R) 3 (B ++ usesF 2 t.name [] t.dirs) rfl (by rw [← hB2]; simp) rfl rfl rfl ?_ ?_
          · rintro C hC
            refine fR rfl ?_
            refine Run.condF rfl rfl (by simp) ?_
            refine fR rfl ?_
            refine aL rfl rfl rfl rfl rfl ?_
            refine fM rfl ?_
            exact rWeak 2 rfl (ih C (by rw [← hC]; simp [fldL])) rfl rfl rfl
          · rintro j x r2 C h2 hj hjd hC ih2
            have hx := ht.f x (List.mem_of_getElem? h2)
            have hxn := hx.nm
            have hxd := hx.d.len
            have hal := hx.al
            have hlen2 := congrArg List.length hC
            simp only [fldL, List.length_append] at hlen2
            refine fR rfl ?_
            refine Run.condT rfl rfl (by simp; omega) ?_
            refine fR rfl ?_
            refine Mid.elemMap rfl rfl rfl h2 rfl rfl ?_
            refine fM rfl ?_
            refine pu rfl ?_
            refine fM rfl ?_
            refine pu rfl ?_
            refine fM rfl ?_
            refine Mid.callO [1] (uses_ok H C x.dirs hx.d 8 (t.name ++ [46] ++ x.name) (by omega)) rfl rfl rfl rfl (by simp [stoBd]; simp [AObj.bd]) (by repeat' (first | exact trivial | exact rfl | refine And.intro ?_ ?_ | exact (congrArg some (AObj.ren_mE _ _ _ _ _ _)).symm | exact (congrArg some (AObj.ren_cE _ _ _)).symm)) rfl rfl (ob' := [(1, .arr (C ++ usesF 8 (t.name ++ [46] ++ x.name) [] x.dirs).length)]) (rfl) rfl rfl ?_
            refine fM rfl ?_
            refine lM rfl rfl rfl ?_
            refine fM rfl ?_
            refine rList x.args (fun m (D : List Fault) => { env := [(3, .own 1 2 (D.map Fault.enc)), (5, .ptr 2 0), (7, .t (.int .i64 8)), (10, .t (.str (t.name ++ [46] ++ x.name))), (18, .t (.lst (ds.map Def.enc))), (19, .t (.int .i64 ds.length)), (20, .t (.int .i64 i)), (45, .t (.lst (t.fields.map Field.enc))), (46, .t (.int .i64 t.fields.length)), (47, .t (.int .i64 j)), (64, .t (.lst (x.args.map Input.enc))), (65, .t (.int .i64 x.args.length)), (66, .t (.int .i64 m))], s := ⟨[(1, .arr D.length), (2, (.cells [.t (.int .i64 t.kind), .t (.str t.name), .t (.lst (t.implements.map sE)), .t (.lst (t.dirs.map Dir.enc)), .t (.lst (t.fields.map Field.enc)), .t (.lst (t.members.map Member.enc)), .t (.lst (t.inputs.map Input.enc))]))], 4⟩ }) (fun r3 m D => D ++ (argL (t.name ++ [46] ++ x.name) r3 ++ (fldL t.name 8 r2 ++ chkD r)) = R) 4 (C ++ usesF 8 (t.name ++ [46] ++ x.name) [] x.dirs) rfl (by rw [← hC]; simp [fldL]) rfl rfl rfl ?_ ?_
            · rintro D hD2
              refine fR rfl ?_
              refine Run.condF rfl rfl (by simp) ?_
              refine fR rfl ?_
              refine aL rfl rfl rfl rfl rfl ?_
              refine fM rfl ?_
              exact rWeak 3 rfl (ih2 D (by rw [← hD2]; simp [argL])) rfl rfl rfl
            · rintro m a r3 D h3 hm hmd hD2 ih3
              have ha := hx.a a (List.mem_of_getElem? h3)
              have han := ha.nm
              have had := ha.d.len
              have hlen3 := congrArg List.length hD2
              simp only [argL, List.length_append] at hlen3
              refine fR rfl ?_
              refine Run.condT rfl rfl (by simp; omega) ?_
              refine fR rfl ?_
              refine Mid.elemMap rfl rfl rfl h3 rfl rfl ?_
              refine fM rfl ?_
              refine pu rfl ?_
              refine fM rfl ?_
              refine pu rfl ?_
              refine pu rfl ?_
              refine Mid.callO [1] (uses_ok H D a.dirs ha.d 0 (t.name ++ [46] ++ x.name ++ [40] ++ a.name ++ [41]) (by omega)) rfl rfl rfl rfl (by simp [stoBd]; simp [AObj.bd]) (by repeat' (first | exact trivial | exact rfl | refine And.intro ?_ ?_ | exact (congrArg some (AObj.ren_mE _ _ _ _ _ _)).symm | exact (congrArg some (AObj.ren_cE _ _ _)).symm)) rfl rfl (ob' := [(1, .arr (D ++ usesF 0 (t.name ++ [46] ++ x.name ++ [40] ++ a.name ++ [41]) [] a.dirs).length)]) (rfl) rfl rfl ?_
              refine fM rfl ?_
              refine aL rfl rfl rfl rfl rfl ?_
              refine fM rfl ?_
              exact rWeak 4 rfl (ih3 (D ++ usesF 0 (t.name ++ [46] ++ x.name ++ [40] ++ a.name ++ [41]) [] a.dirs) (by rw [← hD2]; simp [argL])) rfl rfl rfl
        · refine Run.condF rfl rfl (by simp [k2]) ?_
          refine fR rfl ?_
          by_cases k4 : t.kind = 4
          · rw [partL4 k4] at hB2 hlen
            refine Run.condT rfl rfl (by simp [k4]) ?_
            refine fR rfl ?_
            refine Mid.callO [1] (uses_ok H B t.dirs ht.d 2 t.name (by omega)) rfl rfl rfl rfl (by simp [stoBd]; simp [AObj.bd]) (by repeat' (first | exact trivial | exact rfl | refine And.intro ?_ ?_ | exact (congrArg some (AObj.ren_mE _ _ _ _ _ _)).symm | exact (congrArg some (AObj.ren_cE _ _ _)).symm)) rfl rfl (ob' := [(1, .arr (B ++ usesF 2 t.name [] t.dirs).length)]) (rfl) rfl rfl ?_
            refine fM rfl ?_
            refine Run.condF rfl rfl (by simp [k1]) ?_
            refine fR rfl ?_
            refine Run.condF rfl rfl (by simp [k2]) ?_
            refine fR rfl ?_
            refine Run.condF rfl rfl (by simp [k4]) ?_
            refine fR rfl ?_
            refine Run.condT rfl rfl (by simp [k4]) ?_
            have hml := ht.ml
            refine fR rfl ?_
            refine lM rfl rfl rfl ?_
            refine fM rfl ?_
            refine rList t.members (fun j (C : List Fault) => { env := [(3, .own 1 2 (C.map Fault.enc)), (5, .ptr 2 0), (7, .t (.int .i64 16)), (18, .t (.lst (ds.map Def.enc))), (19, .t (.int .i64 ds.length)), (20, .t (.int .i64 i)), (86, .t (.lst (t.members.map Member.enc))), (87, .t (.int .i64 t.members.length)), (88, .t (.int .i64 j))], s := ⟨[(1, .arr C.length), (2, (.cells [.t (.int .i64 t.kind), .t (.str t.name), .t (.lst (t.implements.map sE)), .t (.lst (t.dirs.map Dir.enc)), .t (.lst (t.fields.map Field.enc)), .t (.lst (t.members.map Member.enc)), .t (.lst (t.inputs.map Input.enc))]))], 3⟩ }) (fun r2 j C => C ++ (memL t.name 16 r2 ++ chkD r) = R) 3 (B ++ usesF 2 t.name [] t.dirs) rfl (by rw [← hB2]; simp) rfl rfl rfl ?_ ?_
            · rintro C hC
              refine fR rfl ?_
              refine Run.condF rfl rfl (by simp) ?_
              refine fR rfl ?_
              refine aL rfl rfl rfl rfl rfl ?_
              refine fM rfl ?_
              exact rWeak 2 rfl (ih C (by rw [← hC]; simp [memL])) rfl rfl rfl
            · rintro j x r2 C h2 hj hjd hC ih2
              have hx := ht.m x (List.mem_of_getElem? h2)
              have hxn := hx.nm
              have hxd := hx.d.len
              have hlen2 := congrArg List.length hC
              simp only [memL, List.length_append] at hlen2
              refine fR rfl ?_
              refine Run.condT rfl rfl (by simp; omega) ?_
              refine fR rfl ?_
              refine Mid.elemMap rfl rfl rfl h2 rfl rfl ?_
              refine fM rfl ?_
              refine pu rfl ?_
              refine fM rfl ?_
              refine pu rfl ?_
              refine Mid.callO [1] (uses_ok H C x.dirs hx.d 16 (t.name ++ [46] ++ x.name) (by omega)) rfl rfl rfl rfl (by simp [stoBd]; simp [AObj.bd]) (by repeat' (first | exact trivial | exact rfl | refine And.intro ?_ ?_ | exact (congrArg some (AObj.ren_mE _ _ _ _ _ _)).symm | exact (congrArg some (AObj.ren_cE _ _ _)).symm)) rfl rfl (ob' := [(1, .arr (C ++ usesF 16 (t.name ++ [46] ++ x.name) [] x.dirs).length)]) (rfl) rfl rfl ?_
              refine fM rfl ?_
              refine aL rfl rfl rfl rfl rfl ?_
              refine fM rfl ?_
              exact rWeak 3 rfl (ih2 (C ++ usesF 16 (t.name ++ [46] ++ x.name) [] x.dirs) (by rw [← hC]; simp [memL])) rfl rfl rfl
          · refine Run.condF rfl rfl (by simp [k4]) ?_
            refine fR rfl ?_
            refine Mid.callO [1] (uses_ok H B t.dirs ht.d 2 t.name (by omega)) rfl rfl rfl rfl (by simp [stoBd]; simp [AObj.bd]) (by repeat' (first | exact trivial | exact rfl | refine And.intro ?_ ?_ | exact (congrArg some (AObj.ren_mE _ _ _ _ _ _)).symm | exact (congrArg some (AObj.ren_cE _ _ _)).symm)) rfl rfl (ob' := [(1, .arr (B ++ usesF 2 t.name [] t.dirs).length)]) (rfl) rfl rfl ?_
            refine fM rfl ?_
            refine Run.condF rfl rfl (by simp [k1]) ?_
            refine fR rfl ?_
            refine Run.condF rfl rfl (by simp [k2]) ?_
            refine fR rfl ?_
            by_cases k3 : t.kind = 3
            · rw [partL3 k3] at hB2 hlen
              refine Run.condT rfl rfl (by simp [k3]) ?_
              refine Run.condT rfl rfl (by simp [k3]) ?_
              have hml := ht.ml
              refine fR rfl ?_
              refine lM rfl rfl rfl ?_
              refine fM rfl ?_
              refine rList t.members (fun j (C : List Fault) => { env := [(3, .own 1 2 (C.map Fault.enc)), (5, .ptr 2 0), (7, .t (.int .i64 0)), (18, .t (.lst (ds.map Def.enc))), (19, .t (.int .i64 ds.length)), (20, .t (.int .i64 i)), (86, .t (.lst (t.members.map Member.enc))), (87, .t (.int .i64 t.members.length)), (88, .t (.int .i64 j))], s := ⟨[(1, .arr C.length), (2, (.cells [.t (.int .i64 t.kind), .t (.str t.name), .t (.lst (t.implements.map sE)), .t (.lst (t.dirs.map Dir.enc)), .t (.lst (t.fields.map Field.enc)), .t (.lst (t.members.map Member.enc)), .t (.lst (t.inputs.map Input.enc))]))], 3⟩ }) (fun r2 j C => C ++ (memL t.name 0 r2 ++ chkD r) = R) 3 (B ++ usesF 2 t.name [] t.dirs) rfl (by rw [← hB2]; simp) rfl rfl rfl ?_ ?_
              · rintro C hC
                refine fR rfl ?_
                refine Run.condF rfl rfl (by simp) ?_
                refine fR rfl ?_
                refine aL rfl rfl rfl rfl rfl ?_
                refine fM rfl ?_
                exact rWeak 2 rfl (ih C (by rw [← hC]; simp [memL])) rfl rfl rfl
              · rintro j x r2 C h2 hj hjd hC ih2
                have hx := ht.m x (List.mem_of_getElem? h2)
                have hxn := hx.nm
                have hxd := hx.d.len
                have hlen2 := congrArg List.length hC
                simp only [memL, List.length_append] at hlen2
                refine fR rfl ?_
                refine Run.condT rfl rfl (by simp; omega) ?_
                refine fR rfl ?_
                refine Mid.elemMap rfl rfl rfl h2 rfl rfl ?_
                refine fM rfl ?_
                refine pu rfl ?_
                refine fM rfl ?_
                refine pu rfl ?_
                refine Mid.callO [1] (uses_ok H C x.dirs hx.d 0 (t.name ++ [46] ++ x.name) (by omega)) rfl rfl rfl rfl (by simp [stoBd]; simp [AObj.bd]) (by repeat' (first | exact trivial | exact rfl | refine And.intro ?_ ?_ | exact (congrArg some (AObj.ren_mE _ _ _ _ _ _)).symm | exact (congrArg some (AObj.ren_cE _ _ _)).symm)) rfl rfl (ob' := [(1, .arr (C ++ usesF 0 (t.name ++ [46] ++ x.name) [] x.dirs).length)]) (rfl) rfl rfl ?_
                refine fM rfl ?_
                refine aL rfl rfl rfl rfl rfl ?_
                refine fM rfl ?_
                exact rWeak 3 rfl (ih2 (C ++ usesF 0 (t.name ++ [46] ++ x.name) [] x.dirs) (by rw [← hC]; simp [memL])) rfl rfl rfl
            · refine Run.condF rfl rfl (by simp [k3]) ?_
              refine fR rfl ?_
              refine Run.condF rfl rfl (by simp [k4]) ?_
              refine fR rfl ?_
              by_cases k5 : t.kind = 5
              · rw [partL5 k5] at hB2 hlen
                refine Run.condT rfl rfl (by simp [k5]) ?_
                have hil := ht.il
                refine fR rfl ?_
                refine lM rfl rfl rfl ?_
                refine fM rfl ?_
                refine rList t.inputs (fun j (C : List Fault) => { env := [(3, .own 1 2 (C.map Fault.enc)), (5, .ptr 2 0), (18, .t (.lst (ds.map Def.enc))), (19, .t (.int .i64 ds.length)), (20, .t (.int .i64 i)), (107, .t (.lst (t.inputs.map Input.enc))), (108, .t (.int .i64 t.inputs.length)), (109, .t (.int .i64 j))], s := ⟨[(1, .arr C.length), (2, (.cells [.t (.int .i64 t.kind), .t (.str t.name), .t (.lst (t.implements.map sE)), .t (.lst (t.dirs.map Dir.enc)), .t (.lst (t.fields.map Field.enc)), .t (.lst (t.members.map Member.enc)), .t (.lst (t.inputs.map Input.enc))]))], 3⟩ }) (fun r2 j C => C ++ (inpL t.name r2 ++ chkD r) = R) 3 (B ++ usesF 2 t.name [] t.dirs) rfl (by rw [← hB2]; simp) rfl rfl rfl ?_ ?_
                · rintro C hC
                  refine fR rfl ?_
                  refine Run.condF rfl rfl (by simp) ?_
                  refine fR rfl ?_
                  refine aL rfl rfl rfl rfl rfl ?_
                  refine fM rfl ?_
                  exact rWeak 2 rfl (ih C (by rw [← hC]; simp [inpL])) rfl rfl rfl
                · rintro j x r2 C h2 hj hjd hC ih2
                  have hx := ht.i x (List.mem_of_getElem? h2)
                  have hxn := hx.nm
                  have hxd := hx.d.len
                  have hlen2 := congrArg List.length hC
                  simp only [inpL, List.length_append] at hlen2
                  refine fR rfl ?_
                  refine Run.condT rfl rfl (by simp; omega) ?_
                  refine fR rfl ?_
                  refine Mid.elemMap rfl rfl rfl h2 rfl rfl ?_
                  refine fM rfl ?_
                  refine pu rfl ?_
                  refine fM rfl ?_
                  refine pu rfl ?_
                  refine Mid.callO [1] (uses_ok H C x.dirs hx.d 0 (t.name ++ [46] ++ x.name) (by omega)) rfl rfl rfl rfl (by simp [stoBd]; simp [AObj.bd]) (by repeat' (first | exact trivial | exact rfl | refine And.intro ?_ ?_ | exact (congrArg some (AObj.ren_mE _ _ _ _ _ _)).symm | exact (congrArg some (AObj.ren_cE _ _ _)).symm)) rfl rfl (ob' := [(1, .arr (C ++ usesF 0 (t.name ++ [46] ++ x.name) [] x.dirs).length)]) (rfl) rfl rfl ?_
                  refine fM rfl ?_
                  refine aL rfl rfl rfl rfl rfl ?_
                  refine fM rfl ?_
                  exact rWeak 3 rfl (ih2 (C ++ usesF 0 (t.name ++ [46] ++ x.name) [] x.dirs) (by rw [← hC]; simp [inpL])) rfl rfl rfl
              · rw [partL0 k1 k2 k3 k4 k5] at hB2
                refine Run.condF rfl rfl (by simp [k5]) ?_
                refine fR rfl ?_
                refine aL rfl rfl rfl rfl rfl ?_
                refine fM rfl ?_
                exact rWeak 2 rfl (ih (B ++ usesF 2 t.name [] t.dirs) (by rw [← hB2]; simp)) rfl rfl rfl
  exact hR _ rfl hl
end Go.GB.C23


/-
  F23L: chapter 23's functions: documents without the directives of subgraphs; the laws of sets, of checks, of what is found.
-/
namespace Go.GB.C23
open Go.GB Go.GB.C11
set_option linter.unusedSimpArgs false
set_option linter.unusedVariables false
set_option maxRecDepth 100000
set_option maxHeartbeats 4000000
variable {P : Program}

def tT : Str := [84]
def exD : Def := ⟨1, tT, [], [⟨[99, 111, 115, 116], []⟩], [], [], []⟩
theorem exD_ok : ∀ t, t ∈ [exD] → DefD t := by
  intro t h
  simp at h; subst h
  exact ⟨by decide, ⟨by decide, by intro d hd; simp [exD] at hd; subst hd; exact ⟨by decide, by decide, by simp⟩⟩, by decide, by simp [exD], by decide, by simp [exD], by decide, by simp [exD]⟩
theorem exD_chk : chkD [exD] = [⟨29, tT⟩] := by kernel_rfl
theorem ex12_ok (H : Pr23 P) : FnOk P 12 [] ⟨[], 0⟩ { v := .t (.bool true) } := by
  have h1 := dSet_ok H [105, 100, 32, 110, 97, 109, 101] (by decide) (by decide)
  rw [show setF [105, 100, 32, 110, 97, 109, 101] = ([[105, 100], [110, 97, 109, 101]], 0) by kernel_rfl] at h1
  have h2 := chk_ok H [exD] (by decide) exD_ok (by rw [exD_chk]; decide)
  rw [exD_chk] at h2
  have h3 := faults_ok H.toPr [⟨29, tT⟩] [⟨29, tT⟩] (by decide) (by decide)
  rw [decide_eq_true rfl] at h3
  have h4 := hasD_ok H 25 [⟨[98], []⟩] (by decide) [98] (.inl rfl)
  rw [show hasD [98] [⟨[98], []⟩] = true by rfl] at h4
  dsimp only at h1
  refine FnOk.run H.i12 H.mixed rfl rfl ?_
  refine fR rfl ?_
  refine Mid.call h1 rfl rfl rfl rfl ?_
  refine Mid.fast (f := 5) rfl trivial ?_
  refine Mid.done0 rfl ?_
  refine Run.fast (f := 8) rfl trivial ?_
  refine Mid.done0 rfl ?_
  refine rWeakC 3 rfl (st' := { env := [(1, .t (.lst ([[105, 100], [110, 97, 109, 101]].map sE))), (2, .t (.int .i64 0)), (3, .ptr 2 0)], s := ⟨[(2, .cells [.t (.lst ([exD].map Def.enc))])], 3⟩ }) ?_ rfl rfl rfl
  refine fR rfl ?_
  refine lMG rfl rfl rfl rfl ?_
  refine fM rfl ?_
  refine gr rfl ?_
  refine fM rfl ?_
  refine Mid.ungd rfl rfl rfl ?_
  refine Mid.call (h2) rfl rfl rfl rfl ?_
  refine fM rfl ?_
  refine Mid.ungd rfl rfl rfl ?_
  refine Mid.bslP rfl rfl rfl ?_
  skip
  refine Mid.ungd rfl rfl rfl ?_
  refine Mid.call (h3) rfl rfl rfl rfl ?_
  refine fM rfl ?_
  refine Mid.ungd rfl rfl rfl ?_
  refine Mid.bslP rfl rfl rfl ?_
  skip
  refine Mid.ungd rfl rfl rfl ?_
  refine Mid.call (h4) rfl rfl rfl rfl ?_
  refine fM rfl ?_
  refine Run.fin rfl (EndOk.go ?_); exact .t rfl

end Go.GB.C23


/-
  F23M: chapter 23's functions: the law of the directives that do not concern subgraphs.
-/
namespace Go.GB.C23
open Go.GB Go.GB.C11
set_option linter.unusedSimpArgs false
set_option linter.unusedVariables false
set_option maxRecDepth 100000
set_option maxHeartbeats 4000000
variable {P : Program}

end Go.GB.C23


/-
  GbX: what a law is handed, as trees; a law's row from its contract.
-/
namespace Go.GB
open Go.RowKit Go.WideShapes Go.ChangeShapes

abbrev allFix : Nat → Lab := fun _ => .fix none

/-- trees of a type -/
def WT (P : Program) : Nat → TypeId → List T → Prop
  | 0, _, _ => False
  | n + 1, t, ts =>
    match P.underlying t with
    | some .bool => ∃ b, ts = [.bool b]
    | some (.int k) => ∃ x, ts = [.int k x] ∧ (Lit.int k x).wf = true
    | some .string => ∃ s, ts = [.str s] ∧ s.length ≤ reachBytes
    | some (.slice e) => ∃ xs, ts = [.lst xs] ∧ xs.length * P.bytesOf e ≤ reachBytes ∧ xs.length ≤ maxLen ∧ ∀ c ∈ xs, WT P n e c
    | some (.struct fs) => ts.length = P.cellsOf t ∧ ∀ f ∈ fs.toList, WT P n f.type ((ts.drop f.offset).take (P.cellsOf f.type))
    | some (.array m e) => ts.length = P.cellsOf t ∧ ∀ i, i < m → WT P n e ((ts.drop (i * P.cellsOf e)).take (P.cellsOf e))
    | _ => False

/-- places that follow each other: where they end -/
def consec (P : Program) : Nat → List (Nat × TypeId) → Option Nat
  | off, [] => some off
  | off, (o, t) :: r => if o = off then consec P (off + P.cellsOf t) r else none

/-- types of plain data: closed under their parts -/
def plainT (P : Program) (S : List TypeId) : Bool :=
  S.all fun t =>
    match P.underlying t with
    | some .bool => true
    | some (.int _) => true
    | some .string => true
    | some (.slice e) => S.contains e && decide (0 < P.cellsOf e)
    | some (.struct fs) => (fs.toList.all fun f => S.contains f.type) && (consec P 0 (fs.toList.map fun f => (f.offset, f.type)) == some (P.cellsOf t))
    | some (.array m e) => S.contains e && (consec P 0 ((List.range m).map fun i => (i * P.cellsOf e, e)) == some (P.cellsOf t))
    | _ => false

def RepL (w : World) (cs : List Value) (ts : List T) : Prop := cs.length = ts.length ∧ ∀ (j : Nat) (v : Value) (x : T), cs[j]? = some v → ts[j]? = some x → RepT allFix w v x

theorem RepL.one {w : World} {v : Value} {x : T} (h : RepT allFix w v x) : RepL w [v] [x] := by
  refine ⟨rfl, fun j u y h1 h2 => ?_⟩
  cases j with
  | zero => simp at h1 h2; subst h1; subst h2; exact h
  | succ j => simp at h1

theorem mapM_at {α β : Type} {g : α → Option β} : ∀ {l : List α} {r : List β}, l.mapM g = some r → l.length = r.length ∧ ∀ (j : Nat) (x : α), l[j]? = some x → ∃ y, r[j]? = some y ∧ g x = some y
  | [], r, h => by simp at h; subst h; simp
  | a :: l, r, h => by
    simp only [List.mapM_cons, Option.bind_eq_bind, Option.pure_def, Option.bind_eq_some_iff] at h
    obtain ⟨y, hy, r', hr, h⟩ := h
    simp at h; subst h
    obtain ⟨i1, i2⟩ := mapM_at hr
    refine ⟨by simp [i1], fun j x hx => ?_⟩
    cases j with
    | zero => simp at hx; subst hx; exact ⟨y, rfl, hy⟩
    | succ j => simpa using i2 j x (by simpa using hx)

theorem spot_none {w : World} {a : Addr} {v : Value} (h : w.cell? a = some v) : a.spot = none := by
  unfold World.cell? at h
  cases hs : a.spot with
  | none => rfl
  | some s =>
    rw [hs] at h
    split at h <;> simp_all

theorem cells?_at {w : World} {base n : Nat} {a : Addr} {cs : List Value} (h : w.cells? base a n = some cs) : cs.length = n ∧ ∀ (j : Nat) (v : Value), cs[j]? = some v → w.cell? (a.add j) = some v := by
  unfold World.cells? at h
  split at h
  · obtain ⟨h1, h2⟩ := mapM_at h
    simp at h1
    refine ⟨h1.symm, fun j v hj => ?_⟩
    have hlt : j < n := by rw [h1]; exact (List.getElem?_eq_some_iff.1 hj).1
    obtain ⟨y, e1, e2⟩ := h2 j j (by simp [hlt])
    rw [hj] at e1; simp at e1; subst e1; exact e2
  · cases h

/-- a list chosen index by index -/
theorem choose_list {α : Type} {Q : Nat → α → Prop} : ∀ (n : Nat), (∀ j, j < n → ∃ v, Q j v) → ∃ vs : List α, vs.length = n ∧ ∀ (j : Nat) (v : α), vs[j]? = some v → Q j v
  | 0, _ => ⟨[], rfl, by simp⟩
  | n + 1, h => by
    obtain ⟨vs, hl, hv⟩ := choose_list n (fun j hj => h j (by omega))
    obtain ⟨v, hq⟩ := h n (by omega)
    refine ⟨vs ++ [v], by simp [hl], fun j u hu => ?_⟩
    by_cases hj : j < vs.length
    · rw [List.getElem?_append_left hj] at hu; exact hv j u hu
    · rw [List.getElem?_append_right (by omega)] at hu
      by_cases e : j = n
      · subst e; rw [hl] at hu; simp at hu; subst hu; exact hq
      · rw [List.getElem?_eq_none (by simp; omega)] at hu; cases hu

section
variable {H : Type} {enc : TypeId × Value → H} {P : Program} {w : World} {sp : Nat → Bool} {held : Bool} {S : List TypeId}

theorem weightsAll_of {e : TypeId} {r : Nat → Bool} : ∀ (l : List (DataW H)), (DataW.weightsAll P e l).all r = true → ∀ d ∈ l, (d.weights P e).all r = true
  | [], _, d, h => by cases h
  | x :: l, h, d, hd => by
    simp only [DataW.weightsAll, List.all_append, Bool.and_eq_true] at h
    cases hd with
    | head => exact h.1
    | tail _ hd => exact weightsAll_of l h.2 d hd
theorem weightsEach_of {r : Nat → Bool} : ∀ (ts : List TypeId) (l : List (DataW H)), (DataW.weightsEach P ts l).all r = true → ∀ (j : Nat) t d, ts[j]? = some t → l[j]? = some d → (d.weights P t).all r = true
  | [], l, _, j, t, d, h, _ => by simp at h
  | t :: ts, [], _, j, t', d, _, h => by simp at h
  | t :: ts, x :: l, h, j, t', d, h1, h2 => by
    simp only [DataW.weightsEach, List.all_append, Bool.and_eq_true] at h
    cases j with
    | zero => simp at h1 h2; subst h1; subst h2; exact h.1
    | succ j => exact weightsEach_of ts l h.2 j t' d (by simpa using h1) (by simpa using h2)
/-- an argument as an abstract value -/
def argV (P : Program) (t : TypeId) (ts : List T) : V := if isAggT P t then .agg (ts.map V.t) else .t (ts.headD .nilp)

/-- the world that a law is called in -/
def L.all (w : World) : L := { lab := allFix, fro := fun _ => 0, nxt := 0, w := w, frf := fun _ _ => 0 }

theorem RelS.all (w : World) : RelS (L.all w) ⟨[], 0⟩ := ⟨by simp [aget], fun b b' k h => by simp [L.all] at h, fun _ _ => rfl, fun b k h => by simp [L.all] at h, fun _ _ => rfl, fun b b' k i h => by simp [L.all] at h, fun b k h => by simp [L.all] at h, fun _ _ _ => rfl⟩

/-- arguments one by one -/
inductive WTs (P : Program) : List TypeId → List V → Prop
  | nil : WTs P [] []
  | cons {t : TypeId} {ts : List TypeId} {n : Nat} {xs : List T} {vs : List V} (h : WT P n t xs) (r : WTs P ts vs) : WTs P (t :: ts) (argV P t xs :: vs)

theorem trodAll_stays (hl : laidOutB P = true) {W W' : World} (hb : Below W.heap.size W W') {sp' : Nat → Bool} : ∀ (ts : List TypeId) (vs : List Value) (ds : List (DataW H)) (ps : List MemPlace), (∀ t ∈ ts, P.readableRec t = true ∧ t < P.types.size) → DataW.TrodAll enc P W 0 (fun _ => true) true ts vs ds ps →
    (∀ p ∈ ps, p.block < W.heap.size) → (∀ p ∈ ps, sp' p.block = true) → DataW.TrodAll enc P W' 0 sp' true ts vs ds ps
  | [], [], [], _, _, h, _, _ => h
  | t :: ts, v :: vs, d :: ds, _, hT, ⟨p, q, h1, h2, e⟩, hlt, hs => by
    subst e
    refine ⟨p, q, WideElems.Trod_stays hl (hT t (by simp)).1 (hT t (by simp)).2 h1 (fun x hx => hb.same (hlt x (List.mem_append_left _ hx))) (fun x hx => hs x (List.mem_append_left _ hx)), ?_, rfl⟩
    exact trodAll_stays hl hb ts vs ds q (fun t ht => hT t (List.mem_cons_of_mem _ ht)) h2 (fun x hx => hlt x (List.mem_append_right _ hx)) (fun x hx => hs x (List.mem_append_right _ hx))
  | [], _ :: _, _, _, _, h, _, _ => by simp [DataW.TrodAll] at h
  | [], [], _ :: _, _, _, h, _, _ => by simp [DataW.TrodAll] at h
  | _ :: _, [], _, _, _, h, _, _ => by simp [DataW.TrodAll] at h
  | _ :: _, _ :: _, [], _, _, h, _, _ => by simp [DataW.TrodAll] at h

end

section
variable {H : Type} {enc : TypeId × Value → H} {P : Program}
theorem post_of_below {f : Func} {s : ChangeSpec} {apart fresh handsOn again : Bool} {W W' : World} {args : Array Value} {v : Value} {ds gs : List (DataW H)} {before pa pv : List MemPlace}
    (hW : DataW.Whole enc P f.params.toList s.vars apart W args.toList ds gs before)
    (hres : ∀ (b : Nat) (sp : Nat → Bool) (hd : Bool), DataW.TrodAll enc P W' b sp hd f.resultTypes.toList (v.resultList f.resultTypes.size) (s.fn H (ds ++ gs)).results [])
    (hargs : ∀ sp : Nat → Bool, (∀ p ∈ before, sp p.block = true) → DataW.TrodAll enc P W' 0 sp true f.params.toList args.toList (s.fn H (ds ++ gs)).args pa)
    (hvars : ∀ sp : Nat → Bool, (∀ p ∈ before, sp p.block = true) → DataW.TrodVars enc P W' sp s.vars (s.fn H (ds ++ gs)).vars pv)
    (hps : before = pa ++ pv) (hb : Below W.heap.size W W')
    (hok : ∀ (j : Nat) (t : TypeId) (r : Value), f.resultTypes[j]? = some t → (v.resultList f.resultTypes.size)[j]? = some r → Value.okWide P W' .any 0 t r) :
    s.post enc P f apart fresh handsOn again W args v W' := by
  have hlt : ∀ p ∈ before, p.block < W.heap.size := fun p hp => hW.lt p hp
  have hold : ∀ p ∈ before, (fun b => decide (b < W.heap.size)) p.block = true := fun p hp => by simpa using hlt p hp
  refine ⟨ds, gs, before, [], pa, pv, hW, hres _ _ _, hargs _ hold, hvars _ hold, World.keptBut_mono (fun p hp => ⟨hp, ?_⟩) (hb.frame (· ∈ before)), fun _ => ?_⟩
  · rw [hps, List.mem_append] at hp
    exact Or.inr hp
  · obtain ⟨_, _, _, _, _, hz, hn⟩ := hW
    refine ⟨hok, _, _, ([] ++ pa) ++ pv, ⟨[] ++ pa, pv, trodAll_append (hargs _ (fun _ _ => rfl)) (hres _ _ _), hvars _ (fun _ _ => rfl), rfl, ?_, ?_⟩, ?_⟩
    · intro b off hp
      have hin : MemPlace.cell b off ∈ before := by rw [hps]; simpa using hp
      rw [hb.frozen (hlt _ hin)]
      exact hz b off hin
    · intro ha
      have := hn ha
      rw [hps] at this
      simpa using this
    · intro p hp _
      rw [hps]
      simpa using hp

end
end Go.GB


/-
  GbZA: shapes of plain types: what a law is handed, taken apart.
-/
namespace Go.GB
open Go.RowKit Go.WideShapes Go.ChangeShapes

inductive Sh where
  | bool
  | int (k : IntKind)
  | str
  | lst (b : Nat) (s : List Sh)
  | any
  | num (i : Nat)

/-- fields side by side -/
def joinSh (P : Program) (g : TypeId → Option (List Sh)) : Nat → List (Nat × TypeId) → Option (List Sh)
  | _, [] => some []
  | off, (o, t) :: r =>
    if o = off then
      match g t with
      | some a => if a.length = P.cellsOf t then (joinSh P g (off + P.cellsOf t) r).map fun b => a ++ b else none
      | none => none
    else none

def shOf (P : Program) (sp : TypeId → Option Nat) : Nat → TypeId → Option (List Sh)
  | 0, t =>
    match P.underlying t with
    | some .bool => some [.bool]
    | some (.int k) => some [.int k]
    | some .string => some [.str]
    | some (.slice e) => match sp e with | some i => some [.num i] | none => some [.any]
    | _ => none
  | n + 1, t =>
    match P.underlying t with
    | some .bool => some [.bool]
    | some (.int k) => some [.int k]
    | some .string => some [.str]
    | some (.slice e) => match sp e with | some i => some [.num i] | none => (shOf P sp n e).map fun s => [.lst (P.bytesOf e) s]
    | some (.struct fs) => (joinSh P (shOf P sp n) 0 (fs.toList.map fun f => (f.offset, f.type))).bind fun s => if s.length = P.cellsOf t then some s else none
    | some (.array m e) => (joinSh P (shOf P sp n) 0 ((List.range m).map fun i => (i * P.cellsOf e, e))).bind fun s => if s.length = P.cellsOf t then some s else none
    | _ => none

mutual
/-- a tree of that shape; numbers stand for lists of types that contain themselves -/
def Sh.ok (Y : Nat → T → Prop) : Sh → T → Prop
  | .bool, x => ∃ b, x = .bool b
  | .int k, x => ∃ n, x = .int k n ∧ (Lit.int k n).wf = true
  | .str, x => ∃ s, x = .str s ∧ s.length ≤ reachBytes
  | .lst b sh, x => ∃ xs : List (List T), x = .lst xs ∧ xs.length * b ≤ reachBytes ∧ xs.length ≤ maxLen ∧ ∀ c ∈ xs, Sh.oks Y sh c
  | .any, _ => True
  | .num i, x => Y i x
def Sh.oks (Y : Nat → T → Prop) : List Sh → List T → Prop
  | [], [] => True
  | s :: r, x :: ts => s.ok Y x ∧ Sh.oks Y r ts
  | _, _ => False
end

theorem Sh.oks_append {Y : Nat → T → Prop} : ∀ {a b : List Sh} {ts us : List T}, Sh.oks Y a ts → Sh.oks Y b us → Sh.oks Y (a ++ b) (ts ++ us)
  | [], b, [], us, _, h => h
  | [], b, x :: ts, us, h, _ => by simp [Sh.oks] at h
  | s :: r, b, [], us, h, _ => by simp [Sh.oks] at h
  | s :: r, b, x :: ts, us, h, k => by
    simp only [Sh.oks, List.cons_append] at h ⊢
    exact ⟨h.1, Sh.oks_append h.2 k⟩
theorem joinSh_ok {P : Program} {Y : Nat → T → Prop} {g : TypeId → Option (List Sh)} {n : Nat} (hg : ∀ t sh ts, g t = some sh → WT P n t ts → Sh.oks Y sh ts) : ∀ (l : List (Nat × TypeId)) (off : Nat) (sh : List Sh) (ts : List T), joinSh P g off l = some sh → (∀ p ∈ l, WT P n p.2 ((ts.drop p.1).take (P.cellsOf p.2))) →
    ∃ us, Sh.oks Y sh us ∧ us = (ts.drop off).take sh.length
  | [], off, sh, ts, h, _ => by simp [joinSh] at h; subst h; exact ⟨[], trivial, by simp⟩
  | (o, t) :: r, off, sh, ts, h, hp => by
    simp only [joinSh] at h
    split at h
    · rename_i e; subst e
      split at h
      · rename_i a ha
        split at h
        · rename_i hl
          simp only [Option.map_eq_some_iff] at h
          obtain ⟨b, hb, rfl⟩ := h
          have h1 := hg t a _ ha (hp (o, t) (by simp))
          obtain ⟨us, h2, h3⟩ := joinSh_ok hg r _ b ts hb fun p hpm => hp p (List.mem_cons_of_mem _ hpm)
          refine ⟨_, Sh.oks_append h1 h2, ?_⟩
          simp only at h1 ⊢
          rw [h3, List.length_append, hl, List.take_add, List.drop_drop]
        · cases h
      · cases h
    · cases h

theorem shOf_ok {P : Program} {sp : TypeId → Option Nat} {Y : Nat → T → Prop} : ∀ (n m : Nat) (t : TypeId) (sh : List Sh) (ts : List T), (∀ e i k xs, k < n → sp e = some i → xs.length * P.bytesOf e ≤ reachBytes → xs.length ≤ maxLen → (∀ c ∈ xs, WT P k e c) → Y i (.lst xs)) → shOf P sp m t = some sh → WT P n t ts → Sh.oks Y sh ts
  | 0, m, t, sh, ts, _, _, h => by simp [WT] at h
  | n + 1, 0, t, sh, ts, hsp, hs, h => by
    simp only [shOf] at hs
    simp only [WT] at h
    cases hu : P.underlying t with
    | none => rw [hu] at h; exact h.elim
    | some td =>
      rw [hu] at h hs
      cases td with
      | bool => simp only [Option.some.injEq] at hs h; subst hs; obtain ⟨b, rfl⟩ := h; exact ⟨⟨b, rfl⟩, trivial⟩
      | int k => simp at hs h; subst hs; obtain ⟨x, rfl, hw⟩ := h; exact ⟨⟨x, rfl, hw⟩, trivial⟩
      | string => simp at hs h; subst hs; obtain ⟨s, rfl, hw⟩ := h; exact ⟨⟨s, rfl, hw⟩, trivial⟩
      | slice e =>
        obtain ⟨xs, rfl, hr, hl, hc⟩ := h
        cases he : sp e with
        | none => simp only [he, Option.some.injEq] at hs; subst hs; exact ⟨trivial, trivial⟩
        | some i => simp only [he, Option.some.injEq] at hs; subst hs; exact ⟨hsp e i n xs (by omega) he hr hl hc, trivial⟩
      | _ => simp at hs
  | n + 1, m + 1, t, sh, ts, hsp, hs, h => by
    have hsp' : ∀ e i k xs, k < n → sp e = some i → xs.length * P.bytesOf e ≤ reachBytes → xs.length ≤ maxLen → (∀ c ∈ xs, WT P k e c) → Y i (.lst xs) := fun e i k xs hk => hsp e i k xs (by omega)
    simp only [shOf] at hs
    simp only [WT] at h
    cases hu : P.underlying t with
    | none => rw [hu] at h; exact h.elim
    | some td =>
      rw [hu] at h hs
      cases td with
      | bool => simp only [Option.some.injEq] at hs h; subst hs; obtain ⟨b, rfl⟩ := h; exact ⟨⟨b, rfl⟩, trivial⟩
      | int k => simp at hs h; subst hs; obtain ⟨x, rfl, hw⟩ := h; exact ⟨⟨x, rfl, hw⟩, trivial⟩
      | string => simp at hs h; subst hs; obtain ⟨s, rfl, hw⟩ := h; exact ⟨⟨s, rfl, hw⟩, trivial⟩
      | slice e =>
        obtain ⟨xs, rfl, hr, hl, hc⟩ := h
        cases hse : sp e with
        | none =>
          simp only [hse, Option.map_eq_some_iff] at hs
          obtain ⟨s, he, rfl⟩ := hs
          exact ⟨⟨xs, rfl, hr, hl, fun c hcm => shOf_ok n m e s c hsp' he (hc c hcm)⟩, trivial⟩
        | some i => simp only [hse, Option.some.injEq] at hs; subst hs; exact ⟨hsp e i n xs (by omega) hse hr hl hc, trivial⟩
      | struct fs =>
        simp only [Option.bind_eq_some_iff] at hs h
        obtain ⟨s, hs, hs2⟩ := hs
        split at hs2
        · rename_i hl
          simp at hs2; subst hs2
          obtain ⟨us, h1, h2⟩ := joinSh_ok (ts := ts) (Y := Y) (g := shOf P sp m) (n := n) (fun t sh ts a b => shOf_ok n m t sh ts hsp' a b) _ 0 s hs (fun p hp => by
            rw [List.mem_map] at hp
            obtain ⟨f, hf, rfl⟩ := hp
            exact h.2 f hf)
          rw [List.drop_zero, List.take_of_length_le (by omega)] at h2
          subst h2; exact h1
        · cases hs2
      | array k e =>
        simp only [Option.bind_eq_some_iff] at hs h
        obtain ⟨s, hs, hs2⟩ := hs
        split at hs2
        · rename_i hl
          simp at hs2; subst hs2
          obtain ⟨us, h1, h2⟩ := joinSh_ok (ts := ts) (Y := Y) (g := shOf P sp m) (n := n) (fun t sh ts a b => shOf_ok n m t sh ts hsp' a b) _ 0 s hs (fun p hp => by
            rw [List.mem_map] at hp
            obtain ⟨i, hi, rfl⟩ := hp
            exact h.2 i (List.mem_range.1 hi))
          rw [List.drop_zero, List.take_of_length_le (by omega)] at h2
          subst h2; exact h1
        · cases hs2
      | _ => simp at h

/-- trees one by one -/
theorem Sh.oks_cons {Y : Nat → T → Prop} {s : Sh} {r : List Sh} {ts : List T} (h : Sh.oks Y (s :: r) ts) : ∃ x ts', ts = x :: ts' ∧ s.ok Y x ∧ Sh.oks Y r ts' := by
  cases ts with
  | nil => simp [Sh.oks] at h
  | cons x ts => exact ⟨x, ts, rfl, h⟩
theorem Sh.oks_nil {Y : Nat → T → Prop} {ts : List T} (h : Sh.oks Y [] ts) : ts = [] := by
  cases ts with
  | nil => rfl
  | cons x ts => simp [Sh.oks] at h

/-- a list whose elements are encodings -/
theorem choose_map {α : Type} {f : α → List T} {Q : α → Prop} : ∀ (xs : List (List T)), (∀ c ∈ xs, ∃ a, c = f a ∧ Q a) → ∃ l : List α, xs = l.map f ∧ ∀ a ∈ l, Q a
  | [], _ => ⟨[], rfl, by simp⟩
  | c :: xs, h => by
    obtain ⟨l, h1, h2⟩ := choose_map xs (fun c hc => h c (List.mem_cons_of_mem _ hc))
    obtain ⟨a, rfl, ha⟩ := h c (by simp)
    exact ⟨a :: l, by simp [h1], fun b hb => by
      rcases List.mem_cons.1 hb with e | e
      · subst e; exact ha
      · exact h2 b e⟩

theorem WTs.cons_inv {P : Program} {t : TypeId} {ts : List TypeId} {vs : List V} (h : WTs P (t :: ts) vs) {m : Nat} {sh : List Sh} {sp : TypeId → Option Nat} {Y : Nat → T → Prop} (hsp : ∀ e i n xs, sp e = some i → xs.length * P.bytesOf e ≤ reachBytes → xs.length ≤ maxLen → (∀ c ∈ xs, WT P n e c) → Y i (.lst xs)) (hs : shOf P sp m t = some sh) : ∃ xs r, vs = argV P t xs :: r ∧ Sh.oks Y sh xs ∧ WTs P ts r := by
  cases h with
  | cons h r => exact ⟨_, _, rfl, shOf_ok _ _ _ _ _ (fun e i k xs _ => hsp e i k xs) hs h, r⟩
theorem WTs.nil_inv {P : Program} {vs : List V} (h : WTs P [] vs) : vs = [] := by
  cases h; rfl
theorem argV_agg {P : Program} {t : TypeId} (h : isAggT P t = true) (xs : List T) : argV P t xs = .agg (xs.map V.t) := by simp [argV, h]
theorem argV_one {P : Program} {t : TypeId} (h : isAggT P t = false) (x : T) : argV P t [x] = .t x := by simp [argV, h]

theorem len3 {α : Type} {l : List α} (h : l.length = 3) : ∃ a b c, l = [a, b, c] := by
  match l, h with
  | [a, b, c], _ => exact ⟨a, b, c, rfl⟩

end Go.GB


/-
  GbBk: what a law is handed, with its bulk: values and letters, each counted each time it is reached.
-/
namespace Go.GB
open Go.RowKit Go.WideShapes Go.ChangeShapes

mutual
def T.bulk : T → Nat
  | .str s => s.length + 1
  | .lst xs => bulkLL xs + 1
  | .bool _ => 1
  | .int _ _ => 1
  | .ptr _ => 1
  | .fn _ => 1
  | .nilp => 1
  | .nilm => 1
  | .nilf => 1
def bulkLL : List (List T) → Nat
  | [] => 0
  | c :: r => bulkL c + bulkLL r
def bulkL : List T → Nat
  | [] => 0
  | x :: r => x.bulk + bulkL r
end
theorem bulkL_append : ∀ (a b : List T), bulkL (a ++ b) = bulkL a + bulkL b
  | [], b => by simp [bulkL]
  | x :: r, b => by simp only [List.cons_append, bulkL, bulkL_append r b]; omega

/-- a measure of readings that counts values and letters -/
structure Bulk {H : Type} (B : DataW H → Nat) : Prop where
  lit : ∀ l, 1 ≤ B (.lit l)
  str : ∀ bs, bs.length + 1 ≤ B (.lit (.string bs))
  nil : 1 ≤ B .nil
  slice : ∀ e s, (e.map B).sum + 1 ≤ B (.slice e s)
  agg : ∀ ps, (ps.map B).sum ≤ B (.agg ps)

theorem bulkLL_le {H : Type} {B : DataW H → Nat} : ∀ (xs : List (List T)) (es : List (DataW H)), xs.length = es.length → (∀ (i : Nat) c e, xs[i]? = some c → es[i]? = some e → bulkL c ≤ B e) → bulkLL xs ≤ (es.map B).sum
  | [], [], _, _ => by simp [bulkLL]
  | [], _ :: _, h, _ => by simp at h
  | _ :: _, [], h, _ => by simp at h
  | c :: xs, e :: es, h, hb => by
    have h1 := hb 0 c e rfl rfl
    have h2 := bulkLL_le xs es (by simpa using h) (fun i c e a b => hb (i + 1) c e (by simpa using a) (by simpa using b))
    simp only [bulkLL, List.map_cons, List.sum_cons]; omega

theorem pieces2 {P : Program} {w : World} {n : Nat} {cs : List Value} : ∀ (l : List (Nat × TypeId)) (bs : List Nat) (off tot : Nat), consec P off l = some tot → tot ≤ cs.length → l.length = bs.length → (∀ (j : Nat) p nb, l[j]? = some p → bs[j]? = some nb → ∃ ts, RepL w ((cs.drop p.1).take (P.cellsOf p.2)) ts ∧ WT P n p.2 ts ∧ bulkL ts ≤ nb) →
    off ≤ tot ∧ ∃ ts : List T, ts.length = tot - off ∧ (∀ (j : Nat) (v : Value) (x : T), cs[off + j]? = some v → ts[j]? = some x → RepT allFix w v x) ∧ (∀ p ∈ l, off ≤ p.1 ∧ WT P n p.2 ((ts.drop (p.1 - off)).take (P.cellsOf p.2))) ∧ bulkL ts ≤ bs.sum
  | [], bs, off, tot, hc, _, _, _ => by simp [consec] at hc; subst hc; exact ⟨Nat.le_refl _, [], by simp, by simp, by simp, by simp [bulkL]⟩
  | _ :: _, [], _, _, _, _, h, _ => by simp at h
  | (o, t) :: r, nb :: bs, off, tot, hc, hl, hlen, hp => by
    simp only [consec] at hc
    split at hc
    · rename_i e; subst e
      obtain ⟨h1, ts, h2, h3, h4, h5⟩ := pieces2 r bs (o + P.cellsOf t) tot hc hl (by simpa using hlen) (fun j p nb a b => hp (j + 1) p nb (by simpa using a) (by simpa using b))
      obtain ⟨us, k1, k2, k3⟩ := hp 0 (o, t) nb rfl rfl
      have hul : us.length = P.cellsOf t := by rw [← k1.1]; simp; omega
      refine ⟨by omega, us ++ ts, by simp [hul, h2]; omega, fun j v x hv hx => ?_, fun p hpm => ?_, by rw [bulkL_append]; simp only [List.sum_cons]; omega⟩
      · by_cases hj : j < us.length
        · rw [List.getElem?_append_left hj] at hx
          refine k1.2 j v x ?_ hx
          simp only
          rw [List.getElem?_take, if_pos (by omega), List.getElem?_drop]; exact hv
        · rw [List.getElem?_append_right (by omega)] at hx
          refine h3 (j - us.length) v x ?_ hx
          have : o + P.cellsOf t + (j - us.length) = o + j := by omega
          rw [this]; exact hv
      · rcases List.mem_cons.1 hpm with e | e
        · subst e
          refine ⟨Nat.le_refl _, ?_⟩
          simp only [Nat.sub_self, List.drop_zero]
          rw [List.take_append_of_le_length (by omega), List.take_of_length_le (by omega)]
          exact k2
        · obtain ⟨g1, g2⟩ := h4 p e
          refine ⟨by omega, ?_⟩
          have : p.1 - o = us.length + (p.1 - (o + P.cellsOf t)) := by omega
          rw [this, List.drop_append, List.drop_eq_nil_of_le (by omega)]
          simpa using g2
    · cases hc

section
variable {H : Type} {enc : TypeId × Value → H} {P : Program} {w : World} {sp : Nat → Bool} {held : Bool} {S : List TypeId} {B : DataW H → Nat}

theorem trod_repB (hB : Bulk B) (hp : plainT P S = true) : ∀ (n : Nat) (t : TypeId) (cs : List Value) (d : DataW H) (ps : List MemPlace), t ∈ S → DataW.trod enc P w 0 sp held n t cs = some (d, ps) → (d.weights P t).all (· ≤ reachBytes) = true → ∃ ts, RepL w cs ts ∧ WT P n t ts ∧ bulkL ts ≤ B d
  | 0, t, cs, d, ps, _, h, _ => by simp [DataW.trod] at h
  | n + 1, t, cs, d, ps, ht, h, hwt => by
    have hpt := List.all_eq_true.1 hp t ht
    simp only [WT]
    cases hu : P.underlying t with
    | none => rw [hu] at hpt; simp at hpt
    | some td =>
      rw [hu] at hpt
      cases td with
      | bool =>
        rcases cs with _ | ⟨v, _ | ⟨v2, r⟩⟩ <;> try (simp [DataW.trod, hu] at h; done)
        cases v <;> simp [DataW.trod, hu] at h
        rename_i b
        refine ⟨[.bool b], RepL.one (.bool b), ⟨b, rfl⟩, ?_⟩
        rw [← h.1]; simpa [bulkL, T.bulk] using hB.lit _
      | int k =>
        rcases cs with _ | ⟨v, _ | ⟨v2, r⟩⟩ <;> try (simp [DataW.trod, hu] at h; done)
        cases v <;> simp [DataW.trod, hu] at h
        rename_i k' x
        obtain ⟨⟨rfl, h2⟩, hd, _⟩ := h
        refine ⟨[.int k' x], RepL.one (.int _ _), ⟨x, rfl, h2⟩, ?_⟩
        rw [← hd]; simpa [bulkL, T.bulk] using hB.lit _
      | string =>
        rcases cs with _ | ⟨v, _ | ⟨v2, r⟩⟩ <;> try (simp [DataW.trod, hu] at h; done)
        cases v <;> simp [DataW.trod, hu] at h
        rename_i s
        rw [← h.2.1] at hwt
        refine ⟨[.str s.data.toList], RepL.one (.str _), ⟨s.data.toList, rfl, by simpa [DataW.weights] using hwt⟩, ?_⟩
        have := hB.str s.data.toList
        rw [← h.2.1]
        simp only [bulkL, T.bulk]; omega
      | slice e =>
        simp only [Bool.and_eq_true, decide_eq_true_eq] at hpt
        have he : e ∈ S := by simpa using hpt.1
        rcases cs with _ | ⟨v, _ | ⟨v2, r⟩⟩ <;> try (simp [DataW.trod, hu] at h; done)
        cases v <;> try (simp [DataW.trod, hu] at h; done)
        rename_i a len cap
        cases a with
        | none =>
          have h0 : len = 0 ∧ cap = 0 := by
            cases len <;> cases cap <;> simp_all [DataW.trod]
          obtain ⟨rfl, rfl⟩ := h0
          have hd : DataW.nil = d := by
            simp only [DataW.trod, hu] at h
            simp at h; exact h.1
          refine ⟨[.lst []], RepL.one .nil, ⟨[], rfl, by simp, by simp, by simp⟩, ?_⟩
          rw [← hd]
          simpa [bulkL, bulkLL, T.bulk] using hB.nil
        | some a =>
          simp only [DataW.trod, hu] at h
          split at h
          · rename_i hcond
            simp only [Option.bind_eq_some_iff] at h
            obtain ⟨elems, hel, hrest⟩ := h
            obtain ⟨hl, hat⟩ := mapM_at hel
            simp at hl
            rw [Option.map_eq_some_iff] at hrest
            obtain ⟨rest, _, hde⟩ := hrest
            simp only [Prod.mk.injEq] at hde
            rw [← hde.1] at hwt
            simp only [DataW.weights, hu, List.all_cons, List.all_append, Bool.and_eq_true, decide_eq_true_eq, List.length_map] at hwt
            have hreach : len * P.bytesOf e ≤ reachBytes := by
              rw [hl]
              exact Nat.le_trans (Nat.mul_le_mul_right _ (Nat.le_add_right _ _)) hwt.1
            have hone : ∀ i, i < len → ∃ q : List Value × List T, w.cells? 0 (a.add (i * P.cellsOf e)) (P.cellsOf e) = some q.1 ∧ RepL w q.1 q.2 ∧ WT P n e q.2 ∧ ∀ y, elems[i]? = some y → bulkL q.2 ≤ B y.1 := by
              intro i hi
              obtain ⟨y, hye, hy⟩ := hat i i (by simp [hi])
              simp only [Option.bind_eq_some_iff] at hy
              obtain ⟨c, hc, hy⟩ := hy
              obtain ⟨d', ps'⟩ := y
              obtain ⟨ts, k1, k2, k3⟩ := trod_repB hB hp n e c d' ps' he hy (weightsAll_of _ hwt.2.1 _ (List.mem_map.2 ⟨(d', ps'), List.mem_of_getElem? hye, rfl⟩))
              exact ⟨(c, ts), hc, k1, k2, fun y h => by rw [hye] at h; simp at h; subst h; exact k3⟩
            obtain ⟨qs, hql, hq⟩ := choose_list len hone
            have hsz : ∀ (i : Nat) (q : List Value × List T), qs[i]? = some q → q.1.length = P.cellsOf e ∧ q.2.length = P.cellsOf e := by
              intro i q hi
              obtain ⟨h1, h2, _⟩ := hq i q hi
              have := (cells?_at h1).1
              exact ⟨this, by rw [← h2.1]; exact this⟩
            -- the address has no spot, where anything is read
            have hspot : 0 < len → a.spot = none := by
              intro h0
              have hq0 : qs[0]? = some (qs[0]'(by omega)) := by simp
              obtain ⟨h1, _, _⟩ := hq 0 _ hq0
              obtain ⟨e1, e2⟩ := cells?_at h1
              have hlt : 0 < (qs[0]'(by omega)).1.length := by rw [(hsz 0 _ hq0).1]; exact hpt.2
              have := spot_none (e2 0 _ (List.getElem?_eq_getElem hlt))
              simpa [Addr.add] using this
            have hadd : ∀ m, 0 < len → a.add m = ⟨a.block, a.off + m, none⟩ := by
              intro m h0
              have hs := hspot h0
              obtain ⟨b, o, s⟩ := a
              simp at hs; subst hs
              exact add_mk b o m
            refine ⟨[.lst (qs.map (·.2))], RepL.one ?_, ⟨qs.map (·.2), rfl, by simpa [hql] using hreach, by simp [hql]; omega, fun c hc => ?_⟩, ?_⟩
            · have hlen : len = (qs.map (·.2)).length := by simp [hql]
              rw [hlen]
              refine .lst (some a) cap (P.cellsOf e) (qs.map (·.2)) a.block a.off (fun i j => ((qs.map (·.1)).getD i []).getD j undef) (by rw [← hlen]; exact hcond.2.1) ?_ ?_ ?_ ?_ ?_
              · intro i c hc
                rw [List.getElem?_map, Option.map_eq_some_iff] at hc
                obtain ⟨q, h1, rfl⟩ := hc
                exact (hsz i q h1).2
              · intro i j c x hc hx
                have h0 : 0 < len := by have := (List.getElem?_eq_some_iff.1 hc).1; simp [hql] at this; omega
                have hs := hspot h0
                obtain ⟨b, o, s⟩ := a
                simp at hs; subst hs; rfl
              · intro i j c x hc hx; trivial
              · intro i j c x hc hx
                rw [List.getElem?_map, Option.map_eq_some_iff] at hc
                obtain ⟨q, h1, rfl⟩ := hc
                have h0 : 0 < len := by have := (List.getElem?_eq_some_iff.1 h1).1; omega
                obtain ⟨g1, g2, _⟩ := hq i q h1
                obtain ⟨e1, e2⟩ := cells?_at g1
                have hj : j < q.1.length := by rw [g2.1]; exact (List.getElem?_eq_some_iff.1 hx).1
                have := e2 j _ (List.getElem?_eq_getElem hj)
                rw [hadd _ h0] at this
                rw [add_mk] at this
                rw [this]
                simp [h1, hj]
              · intro i j c x hc hx
                rw [List.getElem?_map, Option.map_eq_some_iff] at hc
                obtain ⟨q, h1, rfl⟩ := hc
                obtain ⟨g1, g2, _⟩ := hq i q h1
                have hj : j < q.1.length := by rw [g2.1]; exact (List.getElem?_eq_some_iff.1 hx).1
                have := g2.2 j _ x (List.getElem?_eq_getElem hj) hx
                simpa [h1, hj] using this
            · rw [List.mem_map] at hc
              obtain ⟨q, h1, rfl⟩ := hc
              obtain ⟨i, hi⟩ := List.mem_iff_getElem?.1 h1
              exact (hq i q hi).2.2.1
            · rw [← hde.1]
              have h1 := hB.slice (elems.map (·.1)) (rest.map (·.1))
              have h2 := bulkLL_le (B := B) (qs.map (·.2)) (elems.map (·.1)) (by simp [hql, hl]) (fun i c e a b => by
                rw [List.getElem?_map, Option.map_eq_some_iff] at a b
                obtain ⟨q, a1, rfl⟩ := a
                obtain ⟨y, b1, rfl⟩ := b
                exact (hq i q a1).2.2.2 y b1)
              simp only [bulkL, T.bulk]; omega
          · cases h
      | struct fs =>
        simp only [Bool.and_eq_true, List.all_eq_true, beq_iff_eq] at hpt
        have hh : cs.length = P.cellsOf t ∧ ∃ xs, (fs.toList.mapM fun f => DataW.trod enc P w 0 sp held n f.type ((cs.drop f.offset).take (P.cellsOf f.type))) = some xs ∧ d = .agg (xs.map (·.1)) := by
          have h' := h
          simp only [DataW.trod, hu] at h'
          split at h'
          · rename_i hc
            simp only [Option.map_eq_some_iff] at h'
            obtain ⟨xs, hxs, hd⟩ := h'
            exact ⟨hc, xs, hxs, by simp only [Prod.mk.injEq] at hd; exact hd.1.symm⟩
          · cases h'
        obtain ⟨hlen, xs, hxs, rfl⟩ := hh
        obtain ⟨hl, hat⟩ := mapM_at hxs
        simp only [DataW.weights, hu] at hwt
        obtain ⟨_, ts, g1, g2, g3, g4⟩ := pieces2 (n := n) (w := w) (cs := cs) _ ((xs.map (·.1)).map B) 0 _ hpt.2 (by omega) (by simp [hl]) (fun j p nb hpm hnb => by
          rw [List.getElem?_map, Option.map_eq_some_iff] at hpm
          obtain ⟨f, hj, rfl⟩ := hpm
          have hf := List.mem_of_getElem? hj
          obtain ⟨y, hye, hy⟩ := hat j f hj
          obtain ⟨d', ps'⟩ := y
          rw [List.getElem?_map, List.getElem?_map, hye] at hnb
          simp at hnb; subst hnb
          exact trod_repB hB hp n f.type _ d' ps' (by simpa using hpt.1 f hf) hy (weightsEach_of _ _ hwt j f.type d' (by simp [hj]) (by simp [hye])))
        refine ⟨ts, ⟨by omega, fun j v x hv hx => g2 j v x (by simpa using hv) hx⟩, ⟨by omega, fun f hf => ?_⟩, Nat.le_trans g4 (hB.agg _)⟩
        have := (g3 (f.offset, f.type) (List.mem_map.2 ⟨f, hf, rfl⟩)).2
        simpa using this
      | array m e =>
        simp only [Bool.and_eq_true, beq_iff_eq] at hpt
        have hh : cs.length = P.cellsOf t ∧ ∃ xs, ((List.range m).mapM fun i => DataW.trod enc P w 0 sp held n e ((cs.drop (i * P.cellsOf e)).take (P.cellsOf e))) = some xs ∧ d = .agg (xs.map (·.1)) := by
          have h' := h
          simp only [DataW.trod, hu] at h'
          split at h'
          · rename_i hc
            simp only [Option.map_eq_some_iff] at h'
            obtain ⟨xs, hxs, hd⟩ := h'
            exact ⟨hc, xs, hxs, by simp only [Prod.mk.injEq] at hd; exact hd.1.symm⟩
          · cases h'
        obtain ⟨hlen, xs, hxs, rfl⟩ := hh
        obtain ⟨hl, hat⟩ := mapM_at hxs
        simp only [DataW.weights, hu] at hwt
        obtain ⟨_, ts, g1, g2, g3, g4⟩ := pieces2 (n := n) (w := w) (cs := cs) _ ((xs.map (·.1)).map B) 0 _ hpt.2 (by omega) (by simp [← hl]) (fun j p nb hpm hnb => by
          rw [List.getElem?_map, Option.map_eq_some_iff] at hpm
          obtain ⟨i, hj, rfl⟩ := hpm
          obtain ⟨y, hye, hy⟩ := hat j i hj
          obtain ⟨d', ps'⟩ := y
          rw [List.getElem?_map, List.getElem?_map, hye] at hnb
          simp at hnb; subst hnb
          exact trod_repB hB hp n e _ d' ps' (by simpa using hpt.1) hy (weightsAll_of _ hwt _ (List.mem_map.2 ⟨(d', ps'), List.mem_of_getElem? hye, rfl⟩)))
        refine ⟨ts, ⟨by omega, fun j v x hv hx => g2 j v x (by simpa using hv) hx⟩, ⟨by omega, fun i hi => ?_⟩, Nat.le_trans g4 (hB.agg _)⟩
        have := (g3 (i * P.cellsOf e, e) (List.mem_map.2 ⟨i, List.mem_range.2 hi, rfl⟩)).2
        simpa using this
      | _ => simp at hpt

def vbs : List V → Nat
  | [] => 0
  | .t x :: r => x.bulk + vbs r
  | _ :: r => vbs r
def vb : V → Nat
  | .t x => x.bulk
  | .agg cs => vbs cs
  | _ => 0
theorem vbs_map : ∀ (ts : List T), vbs (ts.map V.t) = bulkL ts
  | [] => rfl
  | x :: r => by simp only [List.map_cons, vbs, bulkL, vbs_map r]
theorem arg_relB (hB : Bulk B) (hp : plainT P S = true) {base : Nat} {t : TypeId} {v : Value} {d : DataW H} {ps : List MemPlace} (ht : t ∈ S) (hok : Value.okWide P w .any base t v) (h : DataW.Trod enc P w 0 sp held t v d ps) (hwt : (d.weights P t).all (· ≤ reachBytes) = true) :
    ∃ n ts, WT P n t ts ∧ RelV (L.all w) v (argV P t ts) ∧ vb (argV P t ts) ≤ B d := by
  obtain ⟨n, hn⟩ := h
  obtain ⟨ts, h1, h2, hbk⟩ := trod_repB hB hp n t _ d ps ht hn hwt
  refine ⟨n, ts, h2, ?_⟩
  have hpt := List.all_eq_true.1 hp t ht
  unfold argV
  by_cases hag : isAggT P t = true
  · simp only [hag, if_true]
    have : ∃ cs, v = .agg cs := by
      unfold isAggT at hag
      unfold Value.okWide at hok
      cases hu : P.underlying t with
      | none => rw [hu] at hag; simp at hag
      | some td => rw [hu] at hag hok; cases td <;> simp at hag <;> exact ⟨_, hok.choose_spec.1⟩
    obtain ⟨cs, rfl⟩ := this
    refine ⟨.agg (by simpa [Value.cells] using h1.1) fun j u c hj hc => ?_, by simpa [vb, vbs_map] using hbk⟩
    rw [List.getElem?_map, Option.map_eq_some_iff] at hc
    obtain ⟨x, hx, rfl⟩ := hc
    exact .t (h1.2 j u x (by simpa [Value.cells] using hj) hx)
  · simp only [hag, if_false, Bool.false_eq_true]
    have hcells : v.cells = #[v] := by
      unfold isAggT at hag
      unfold Value.okWide at hok
      cases hu : P.underlying t with
      | none => rw [hu] at hpt; simp at hpt
      | some td =>
        rw [hu] at hag hok hpt
        cases td <;> simp at hag hpt <;> simp only [Cell.okWide, Cell.ok, hu] at hok <;> cases v <;> first | rfl | (exact hok.elim)
    have hcl : ts.length = 1 := by rw [← h1.1, hcells]; rfl
    obtain ⟨x, rfl⟩ : ∃ x, ts = [x] := by
      match ts, hcl with
      | [x], _ => exact ⟨x, rfl⟩
    exact ⟨.t (h1.2 0 v x (by rw [hcells]; rfl) rfl), by simpa [vb, bulkL] using hbk⟩

theorem args_relB (hB : Bulk B) (hp : plainT P S = true) {base : Nat} : ∀ (ts : List TypeId) (args : List Value) (ds : List (DataW H)) (ps : List MemPlace), (∀ t ∈ ts, t ∈ S) → (∀ (j : Nat) t v, ts[j]? = some t → args[j]? = some v → Value.okWide P w .any base t v) →
    DataW.TrodAll enc P w 0 sp held ts args ds ps → (DataW.weightsEach P ts ds).all (· ≤ reachBytes) = true → ∃ vs, WTs P ts vs ∧ args.length = vs.length ∧ (vs.map vb).sum ≤ (ds.map B).sum ∧ ∀ (j : Nat) (v : Value) (x : V), args[j]? = some v → vs[j]? = some x → RelV (L.all w) v x
  | [], [], [], ps, _, _, _, _ => ⟨[], .nil, rfl, by simp, by simp⟩
  | t :: ts, v :: args, d :: ds, ps, hS, hok, ⟨p, q, h1, h2, _⟩, hwt => by
    simp only [DataW.weightsEach, List.all_append, Bool.and_eq_true] at hwt
    obtain ⟨vs, k1, k2, k4, k3⟩ := args_relB hB hp ts args ds q (fun t ht => hS t (List.mem_cons_of_mem _ ht)) (fun j t v a b => hok (j + 1) t v (by simpa using a) (by simpa using b)) h2 hwt.2
    obtain ⟨n, xs, g1, g2, g3⟩ := arg_relB hB hp (hS t (by simp)) (hok 0 t v rfl rfl) h1 hwt.1
    refine ⟨argV P t xs :: vs, .cons g1 k1, by simp [k2], by simp only [List.map_cons, List.sum_cons]; omega, fun j u x hu hx => ?_⟩
    cases j with
    | zero => simp at hu hx; subst hu; subst hx; exact g2
    | succ j => exact k3 j u x (by simpa using hu) (by simpa using hx)
  | [], _ :: _, _, _, _, _, h, _ => by simp [DataW.TrodAll] at h
  | [], [], _ :: _, _, _, _, h, _ => by simp [DataW.TrodAll] at h
  | _ :: _, [], _, _, _, _, h, _ => by simp [DataW.TrodAll] at h
  | _ :: _, _ :: _, [], _, _, _, h, _ => by simp [DataW.TrodAll] at h

end

section
variable {H : Type} {enc : TypeId × Value → H} {P : Program}
/-- A law's contract, as its row wants it. -/
theorem law_contractB {B : DataW H → Nat} {N : Nat} (hB : Bulk B) {S : List TypeId} {f : FuncId} {fn : Func} {s : ChangeSpec} {tb : TypeId} {apart fresh handsOn again : Bool} (hp : plainT P S = true) (hl : laidOutB P = true) (hT : ∀ t ∈ fn.params.toList, t ∈ S ∧ P.readableRec t = true ∧ t < P.types.size)
    (hrt : fn.resultTypes = #[tb]) (hb : P.underlying tb = some .bool) (hv : s.vars = []) (hs : ∀ ds : List (DataW H), ds.length = fn.params.size → s.fn H ds = { results := [.lit (.bool true)], args := ds })
    (W : World) (base : Nat) (args : Array Value) (ds gs : List (DataW H)) (before : List MemPlace)
    (hval : ∀ (j : Nat) t v, fn.params[j]? = some t → args[j]? = some v → Value.okWide P W .any base t v)
    (hW : DataW.Whole enc P fn.params.toList s.vars apart W args.toList ds gs before)
    (hwt : (DataW.weightsEach P (fn.params.toList ++ s.plain.varTypes P) (ds ++ gs)).all (· ≤ reachBytes) = true)
    (hbk : (ds.map B).sum ≤ N) (hok : ∀ vs, WTs P fn.params.toList vs → (vs.map vb).sum ≤ N → FnOk P f vs ⟨[], 0⟩ { v := .t (.bool true) }) :
    Calls P f args W fun e W' => ∃ v, e = .returned v ∧ s.post enc P fn apart fresh handsOn again W args v W' := by
  have hW' := hW
  obtain ⟨p, q, hA, hV, rfl, hfz, hnd⟩ := hW
  rw [hv] at hV
  obtain ⟨rfl, rfl⟩ := trodVars_none hV
  have hdl : ds.length = fn.params.size := by
    have : ∀ (ts : List TypeId) (vs : List Value) (ds : List (DataW H)) (ps : List MemPlace), DataW.TrodAll enc P W 0 (fun _ => true) true ts vs ds ps → ds.length = ts.length := by
      intro ts
      induction ts with
      | nil => intro vs ds ps h; cases vs <;> cases ds <;> simp_all [DataW.TrodAll]
      | cons t ts ih =>
        intro vs ds ps h
        cases vs with
        | nil => simp [DataW.TrodAll] at h
        | cons v vs =>
          cases ds with
          | nil => simp [DataW.TrodAll] at h
          | cons d ds => obtain ⟨p, q, _, h2, _⟩ := h; simp [ih vs ds q h2]
    simpa using this _ _ _ _ hA
  have hwt' : (DataW.weightsEach P fn.params.toList ds).all (· ≤ reachBytes) = true := by
    have happ : ∀ (ts us : List TypeId) (ds es : List (DataW H)), ts.length = ds.length → DataW.weightsEach P (ts ++ us) (ds ++ es) = DataW.weightsEach P ts ds ++ DataW.weightsEach P us es := by
      intro ts
      induction ts with
      | nil => intro us ds es h; cases ds with
        | nil => simp [DataW.weightsEach]
        | cons d ds => simp at h
      | cons t ts ih => intro us ds es h; cases ds with
        | nil => simp at h
        | cons d ds => simp only [List.cons_append, DataW.weightsEach, List.append_assoc]; rw [ih us ds es (by simpa using h)]
    rw [happ _ _ _ _ (by simpa using hdl.symm), List.all_append, Bool.and_eq_true] at hwt
    exact hwt.1
  obtain ⟨vs, k1, k2, k4, k3⟩ := args_relB hB hp _ _ _ _ (fun t ht => (hT t ht).1) (fun j t v a b => hval j t v (by simpa using a) (by simpa using b)) hA hwt'
  refine ((hok vs k1 (Nat.le_trans k4 hbk)).2 (L.all W) args (RelS.all W) rfl (by simpa using k2) (fun j v x a b => k3 j v x (by simpa using a) b)).mono fun e W' he => ?_
  obtain ⟨v, Λ', rfl, rfl, g1, g2, g3, g4⟩ := he
  have hvt := g4.repT.bool_inv
  subst hvt
  have hbel : Below W.heap.size W Λ'.w := ⟨g1.fr.os, g1.fr.tape, g1.fr.output, g1.fr.size, fun b hb => (g1.fr.fix b hb none rfl).2⟩
  have hsf := hs (ds ++ []) (by simpa using hdl)
  refine ⟨_, rfl, post_of_below (pa := p) (pv := []) (by simpa using hW') ?_ ?_ ?_ (by simp) hbel ?_⟩
  · intro b sp hd
    rw [hsf, hrt]
    exact ⟨[], [], ⟨1, by simp [DataW.trod, hb, Value.cells]⟩, rfl, rfl⟩
  · intro sp hsp
    rw [hsf]
    have hlt : ∀ x ∈ p, x.block < W.heap.size := fun x hx => hW'.lt x (by simpa using hx)
    simpa using trodAll_stays hl hbel _ _ _ _ (fun t ht => (hT t ht).2) hA hlt (fun x hx => hsp x (by simpa using hx))
  · intro sp hsp
    rw [hsf, hv]; rfl
  · intro j t r hj hr
    rw [hrt] at hj
    cases j with
    | zero =>
      simp at hj; subst hj
      simp [hrt, Value.resultList] at hr; subst hr
      simp [Value.okWide, Cell.okWide, Cell.ok, hb]
    | succ j => simp at hj
/-- 'law_contractB', its facts as Booleans -/
theorem law_okB {H : Type} {enc : TypeId × Value → H} {P : Program} {B : DataW H → Nat} {N : Nat} (hB : Bulk B) (S : List TypeId) {f : FuncId} {fn : Func} {s : ChangeSpec} {tb : TypeId} {apart fresh handsOn again : Bool} (hp : plainT P S = true) (hl : laidOutB P = true)
    (hT : (fn.params.toList.all fun t => S.contains t && P.readableRec t && decide (t < P.types.size)) = true)
    (hrt : fn.resultTypes = #[tb]) (hb : P.underlying tb = some .bool) (hv : s.vars = []) (hs : ∀ ds : List (DataW H), ds.length = fn.params.size → s.fn H ds = { results := [.lit (.bool true)], args := ds })
    (W : World) (base : Nat) (args : Array Value) (ds gs : List (DataW H)) (before : List MemPlace)
    (hval : ∀ (j : Nat) t v, fn.params[j]? = some t → args[j]? = some v → Value.okWide P W .any base t v)
    (hW : DataW.Whole enc P fn.params.toList s.vars apart W args.toList ds gs before)
    (hwt : (DataW.weightsEach P (fn.params.toList ++ s.plain.varTypes P) (ds ++ gs)).all (· ≤ reachBytes) = true)
    (hbk : (ds.map B).sum ≤ N) (hok : ∀ vs, WTs P fn.params.toList vs → (vs.map vb).sum ≤ N → FnOk P f vs ⟨[], 0⟩ { v := .t (.bool true) }) :
    Calls P f args W fun e W' => ∃ v, e = .returned v ∧ s.post enc P fn apart fresh handsOn again W args v W' := by
  refine law_contractB hB (S := S) hp hl (fun t ht => ?_) hrt hb hv hs W base args ds gs before hval hW hwt hbk hok
  rw [List.all_eq_true] at hT
  have := hT t ht
  simp only [Bool.and_eq_true, decide_eq_true_eq, List.contains_iff_mem] at this
  exact ⟨this.1.1, this.1.2, this.2⟩

end
end Go.GB


/-
  F23N: what the bulk of a document says of its directives.
-/
namespace Go.GB.C23
open Go.GB Go.GB.C11

theorem mem_bulk {α : Type} {f : α → List T} : ∀ {l : List α} {x : α}, x ∈ l → bulkL (f x) ≤ bulkLL (l.map f)
  | y :: r, x, h => by
    simp only [List.map_cons, bulkLL]
    rcases List.mem_cons.1 h with rfl | h
    · omega
    · have := mem_bulk (f := f) h; omega
theorem len_bulk {α : Type} {f : α → List T} (h : ∀ x, 1 ≤ bulkL (f x)) : ∀ l : List α, l.length ≤ bulkLL (l.map f)
  | [] => by simp
  | y :: r => by
    have := len_bulk h r
    have := h y
    simp only [List.map_cons, bulkLL, List.length_cons]; omega
theorem dir_b (d : Dir) : 1 ≤ bulkL d.enc := by simp only [Dir.enc, bulkL, T.bulk]; omega
theorem dirs_b (l : List Dir) : l.length ≤ bulkLL (l.map Dir.enc) := len_bulk dir_b l
theorem dok_of {d : Dir} (ho : d.Ok) (hb : bulkL d.enc ≤ 1048576) : DOk d := by
  refine ⟨ho.l, ho.nm, fun a ha => ?_⟩
  have h1 := mem_bulk (f := Arg.enc) ha
  simp only [Dir.enc, bulkL, T.bulk] at hb
  simp only [Arg.enc, bulkL, T.bulk] at h1
  exact ⟨by omega, ho.a a ha, by omega⟩
theorem dsok_of {l : List Dir} (ho : ∀ d, d ∈ l → d.Ok) (hb : bulkLL (l.map Dir.enc) ≤ 1048576) : DsOk l :=
  ⟨by have := dirs_b l; omega, fun d hd => dok_of (ho d hd) (by have := mem_bulk (f := Dir.enc) hd; omega)⟩
theorem inpD_of {a : Input} (ho : a.Ok) (hb : bulkL a.enc ≤ 1048576) : InpD a := by
  simp only [Input.enc, bulkL, T.bulk] at hb
  exact ⟨ho.nm, dsok_of ho.d (by omega)⟩
theorem fldD_of {a : Field} (ho : a.Ok) (hb : bulkL a.enc ≤ 1048576) : FldD a := by
  simp only [Field.enc, bulkL, T.bulk] at hb
  exact ⟨ho.nm, dsok_of ho.d (by omega), ho.al, fun x hx => inpD_of (ho.a x hx) (by have := mem_bulk (f := Input.enc) hx; omega)⟩
theorem memD_of {a : Member} (ho : a.Ok) (hb : bulkL a.enc ≤ 1048576) : MemD a := by
  simp only [Member.enc, bulkL, T.bulk] at hb
  exact ⟨ho.nm, dsok_of ho.d (by omega)⟩
theorem inp_b (d : Input) : 1 ≤ bulkL d.enc := by simp only [Input.enc, bulkL, T.bulk]; omega
theorem fld_b (d : Field) : 1 ≤ bulkL d.enc := by simp only [Field.enc, bulkL, T.bulk]; omega
theorem mem_b (d : Member) : 1 ≤ bulkL d.enc := by simp only [Member.enc, bulkL, T.bulk]; omega
theorem def_b (d : Def) : 1 ≤ bulkL d.enc := by simp only [Def.enc, bulkL, T.bulk]; omega
theorem defD_of {a : Def} (ho : a.Ok) (hb : bulkL a.enc ≤ 1048576) : DefD a := by
  simp only [Def.enc, bulkL, T.bulk] at hb
  have h1 := len_bulk fld_b a.fields
  have h2 := len_bulk mem_b a.members
  have h3 := len_bulk inp_b a.inputs
  exact ⟨by omega, dsok_of ho.d (by omega), by omega, fun x hx => fldD_of (ho.f x hx) (by have := mem_bulk (f := Field.enc) hx; omega), by omega, fun x hx => memD_of (ho.m x hx) (by have := mem_bulk (f := Member.enc) hx; omega), by omega, fun x hx => inpD_of (ho.n x hx) (by have := mem_bulk (f := Input.enc) hx; omega)⟩
theorem docD_of {ds : List Def} (ho : DocOk ds) (hb : bulkLL (ds.map Def.enc) ≤ 1048576) : ∀ t, t ∈ ds → DefD t :=
  fun t ht => defD_of (ho.d t ht) (by have := mem_bulk (f := Def.enc) ht; omega)
theorem docL_of {ds : List Def} (hb : bulkLL (ds.map Def.enc) ≤ 1048576) : ds.length ≤ 1048576 := by
  have := len_bulk def_b ds; omega
theorem argL_len (s : Str) : ∀ l : List Input, (argL s l).length ≤ bulkLL (l.map Input.enc)
  | [] => by simp [argL]
  | a :: r => by
    have h1 := argL_len s r
    have h2 := usesF_len 0 (s ++ [40] ++ a.name ++ [41]) a.dirs []
    have h3 := dirs_b a.dirs
    simp only [argL, List.length_append, List.map_cons, bulkLL, Input.enc, bulkL, T.bulk] at h1 ⊢; omega
theorem fldL_len (s : Str) (pl : Int) : ∀ l : List Field, (fldL s pl l).length ≤ bulkLL (l.map Field.enc)
  | [] => by simp [fldL]
  | a :: r => by
    have h1 := fldL_len s pl r
    have h2 := usesF_len pl (s ++ [46] ++ a.name) a.dirs []
    have h3 := dirs_b a.dirs
    have h4 := argL_len (s ++ [46] ++ a.name) a.args
    simp only [fldL, List.length_append, List.map_cons, bulkLL, Field.enc, bulkL, T.bulk] at h1 ⊢; omega
theorem memL_len (s : Str) (pl : Int) : ∀ l : List Member, (memL s pl l).length ≤ bulkLL (l.map Member.enc)
  | [] => by simp [memL]
  | a :: r => by
    have h1 := memL_len s pl r
    have h2 := usesF_len pl (s ++ [46] ++ a.name) a.dirs []
    have h3 := dirs_b a.dirs
    simp only [memL, List.length_append, List.map_cons, bulkLL, Member.enc, bulkL, T.bulk] at h1 ⊢; omega
theorem inpL_len (s : Str) : ∀ l : List Input, (inpL s l).length ≤ bulkLL (l.map Input.enc)
  | [] => by simp [inpL]
  | a :: r => by
    have h1 := inpL_len s r
    have h2 := usesF_len 0 (s ++ [46] ++ a.name) a.dirs []
    have h3 := dirs_b a.dirs
    simp only [inpL, List.length_append, List.map_cons, bulkLL, Input.enc, bulkL, T.bulk] at h1 ⊢; omega
theorem partL_len (t : Def) : (partL t).length ≤ bulkLL (t.fields.map Field.enc) + bulkLL (t.members.map Member.enc) + bulkLL (t.inputs.map Input.enc) := by
  have h1 := fldL_len t.name 4 t.fields
  have h2 := fldL_len t.name 8 t.fields
  have h3 := memL_len t.name 0 t.members
  have h4 := memL_len t.name 16 t.members
  have h5 := inpL_len t.name t.inputs
  unfold partL
  split
  · omega
  · split
    · omega
    · split
      · omega
      · split
        · omega
        · split
          · omega
          · simp
theorem chkD_len : ∀ ds : List Def, (chkD ds).length ≤ bulkLL (ds.map Def.enc)
  | [] => by simp [chkD]
  | t :: r => by
    have h1 := chkD_len r
    have h2 := partL_len t
    have h3 := usesF_len (ownP t.kind) t.name t.dirs []
    have h4 := dirs_b t.dirs
    simp only [chkD, defL, List.length_append, List.map_cons, bulkLL, Def.enc, bulkL, T.bulk] at h1 ⊢; omega
end Go.GB.C23


/-
  F23P: the laws of directives, for documents of bounded bulk.
-/
namespace Go.GB.C23
open Go.GB Go.GB.C11
variable {P : Program}
end Go.GB.C23


/-
  GbZG: the driver's rules for growing arrays that may be changed; what is known less, with the objects in view.
-/
namespace Go.GB

theorem rep_blockO {l : Nat → Lab} {w : World} {b off cap sz : Nat} {arr : Array Value} {e : TypeId} {fz : Nat × Nat} {xs : List (List T)} (hb : w.heap[b]? = some (.cells arr e fz)) (hcap : xs.length ≤ cap)
    (hsz : ∀ (i : Nat) (c : List T), xs[i]? = some c → c.length = sz) (hr : ∀ o, Rd l b o)
    (hx : ∀ (j : Nat) (x : T), xs.flatten[j]? = some x → ∃ v, arr[off + j]? = some v ∧ RepT l w v x) : RepT l w (.slice (some ⟨b, off, none⟩) xs.length cap) (.lst xs) := by
  refine .lst _ cap sz xs b off (fun i j => arr.toList.getD (off + (i * sz + j)) undef) hcap hsz (fun _ _ _ _ _ _ => rfl) (fun _ _ _ _ _ _ => hr _) ?_ ?_
  · intro i j c x h1 h2
    obtain ⟨v, h3, _⟩ := hx (i * sz + j) x (flat_get xs hsz i j c x h1 h2)
    rw [cell_of_row w b _ arr e fz hb, Nat.add_assoc, h3]
    simp [h3]
  · intro i j c x h1 h2
    obtain ⟨v, h3, h4⟩ := hx (i * sz + j) x (flat_get xs hsz i j c x h1 h2)
    simpa [h3] using h4

/-- Knowing less of a value, with the objects in view: names from m on are forgotten. -/
def LeZ (s : S) (m m' : Nat) (x x' : V) : Prop := ∀ (Λ : L) (v : Value), m ≤ Λ.nxt → RelS Λ s → RelV Λ v x → RelV (Λ.cut m m') v x'
theorem LeZ.le {s : S} {m m' : Nat} {x x' : V} (hm : m ≤ m') (h : LeX m m' x x') : LeZ s m m' x x' := fun _ _ h1 _ h2 => h.cut hm h1 h2

/-- a growing array's slice that is changed no more -/
theorem LeZ.gsl {s : S} {m m' k ver off len sz : Nat} {cs : List V} {ts : List T} {xs : List (List T)} (hk : m ≤ k) (hs : aget s.sto k = some (.gro ver cs)) (hle : off + len * sz ≤ cs.length) (hts : ((cs.drop off).take (len * sz)).mapM V.cell1 = some ts) (hxs : xs.flatten = ts) (hn : xs.length = len) (hl : allLen sz xs = true) :
    LeZ s m m' (.gsl k ver off len sz) (.t (.lst xs)) := by
  intro Λ v hm hr hv
  subst hn
  generalize hlen : xs.length = len at hv hts hle
  cases hv with
  | gsl hv hkn hn0 h =>
    have h0 : Λ.frf k 0 = ver := (hr.sto k _ hs).2.1
    rcases h h0.symm with ⟨⟨a, rfl⟩, e⟩ | ⟨b, cap, N, rfl, hc, hcur, hN, hN2⟩
    · rw [e] at hlen
      have : xs = [] := List.length_eq_zero_iff.1 hlen
      subst this; exact .t .nil
    · obtain ⟨arr, e, h2, h3, h4⟩ := hr.gCells hs hcur
      obtain ⟨k1, k2⟩ := mapM_cell1 _ ts hts
      obtain ⟨i, hlab, _⟩ := hcur
      have hlab' : (Λ.cut m m').lab b = .fix none := by simp [L.cut, hlab]; omega
      subst hlen
      refine .t (rep_blockO (sz := sz) (b := b) (w := (Λ.cut m m').w) h2 hc (allLen_at hl) (fun o => by simp [Rd, hlab']) fun j x hj => ?_)
      rw [hxs] at hj
      have hjl : j < ts.length := (List.getElem?_eq_some_iff.1 hj).1
      rw [← k1, List.length_take, List.length_drop] at hjl
      have hcj : ((cs.drop off).take (xs.length * sz))[j]? = some (cs[off + j]'(by omega)) := by
        rw [List.getElem?_take, if_pos (by omega), List.getElem?_drop, List.getElem?_eq_getElem (by omega)]
      have hc1 := k2 j _ x hcj hj
      have harr : off + j < arr.size := by omega
      exact ⟨arr[off + j], by simp [harr], ((h4 (off + j) _ _ (by simp [harr]) (List.getElem?_eq_getElem (by omega))).cell1 hc1).cut⟩

inductive LeZs (s : S) (m m' : Nat) : List V → List V → Prop
  | nil : LeZs s m m' [] []
  | cons {x y : V} {xs ys : List V} (h : LeZ s m m' x y) (t : LeZs s m m' xs ys) : LeZs s m m' (x :: xs) (y :: ys)
theorem LeZs.spec {s : S} {m m' : Nat} {xs ys : List V} (h : LeZs s m m' xs ys) : xs.length = ys.length ∧ ∀ (j : Nat) (c d : V), xs[j]? = some c → ys[j]? = some d → LeZ s m m' c d := by
  induction h with
  | nil => exact ⟨rfl, fun j c d h => by simp at h⟩
  | cons h _ ih =>
    refine ⟨by simp [ih.1], fun j c d h1 h2 => ?_⟩
    cases j with
    | zero => simp at h1 h2; subst h1; subst h2; exact h
    | succ j => exact ih.2 j c d (by simpa using h1) (by simpa using h2)

theorem LeZ.agg {s : S} {m m' : Nat} {xs ys : List V} (h : LeZs s m m' xs ys) : LeZ s m m' (.agg xs) (.agg ys) := by
  intro Λ v hm hr hv
  obtain ⟨h1, h2⟩ := h.spec
  cases hv with
  | agg hs hv =>
    refine .agg (hs.trans h1) fun j u d hj hd => ?_
    have hlt : j < xs.length := by rw [h1]; exact (List.getElem?_eq_some_iff.1 hd).1
    exact h2 j xs[j] d (by simp [hlt]) hd Λ u hm hr (hv j u _ hj (by simp [hlt]))
theorem LeZ.tup {s : S} {m m' : Nat} {xs ys : List V} (h : LeZs s m m' xs ys) : LeZ s m m' (.tup xs) (.tup ys) := by
  intro Λ v hm hr hv
  obtain ⟨h1, h2⟩ := h.spec
  cases hv with
  | tup hs hv =>
    refine .tup (hs.trans h1) fun j u d hj hd => ?_
    have hlt : j < xs.length := by rw [h1]; exact (List.getElem?_eq_some_iff.1 hd).1
    exact h2 j xs[j] d (by simp [hlt]) hd Λ u hm hr (hv j u _ hj (by simp [hlt]))

inductive LeOZ (s : S) (m m' : Nat) : AObj → AObj → Prop
  | le {o o' : AObj} (h : LeO m m' o o') : LeOZ s m m' o o'
  | cells {cs ds : List V} (h : LeZs s m m' cs ds) : LeOZ s m m' (.cells cs) (.cells ds)
  | gro {r : Nat} {cs ds : List V} (h : LeZs s m m' cs ds) : LeOZ s m m' (.gro r cs) (.gro r ds)

def LeEZ (s : S) (m m' : Nat) (e : List (Nat × V)) : List (Nat × V) → Prop
  | [] => True
  | (t, x) :: r => LeZ s m m' (look e t) x ∧ LeEZ s m m' e r
def LeSZ (s : S) (m m' : Nat) : List (Nat × AObj) → Prop
  | [] => True
  | (k, o) :: r => ((k < m ∧ ∃ o', aget s.sto k = some o' ∧ LeOZ s m m' o' o) ∨ (m ≤ k ∧ k < m' ∧ o.fresh = true)) ∧ LeSZ s m m' r

theorem LeEZ.at {s : S} {m m' : Nat} {e : List (Nat × V)} : ∀ {e' : List (Nat × V)}, LeEZ s m m' e e' → ∀ t, LeZ s m m' (look e t) (look e' t)
  | [], _, t => fun _ _ _ _ _ => .top
  | (k, x) :: r, h, t => by
    obtain ⟨h1, h2⟩ := h
    by_cases e' : k = t
    · subst e'; simpa [look, aget] using h1
    · have := LeEZ.at h2 t; simpa [look, aget, e'] using this
theorem LeSZ.at {s : S} {m m' : Nat} : ∀ {s' : List (Nat × AObj)}, LeSZ s m m' s' → ∀ k o, aget s' k = some o →
    (k < m ∧ ∃ o', aget s.sto k = some o' ∧ LeOZ s m m' o' o) ∨ (m ≤ k ∧ k < m' ∧ o.fresh = true)
  | [], _, k, o, h => by simp [aget] at h
  | (j, x) :: r, h, k, o, hk => by
    obtain ⟨h1, h2⟩ := h
    by_cases e' : j = k
    · subst e'; simp [aget] at hk; subst hk; exact h1
    · simp only [aget, e', if_false] at hk; exact LeSZ.at h2 k o hk

theorem RelS.weakZ {Λ : L} {s : S} (h : RelS Λ s) {s' : S} {m m' : Nat} (hm0 : m ≤ Λ.nxt) (hm' : m ≤ m') (hs : LeSZ s m m' s'.sto) : RelS (Λ.cut m m') s' := by
  have h0 : RelS (Λ.cut m m') ⟨[], 0⟩ := h.weak (s' := ⟨[], 0⟩) hm0 hm' trivial
  refine ⟨fun k o hk => ?_, h0.inj, h0.new, h0.bnd, h0.frz, h0.injF, h0.bndF, h0.frzF⟩
  rcases hs.at k o hk with ⟨hkm, o', ho', hle⟩ | hfr
  · cases hle with
    | le hle => exact (h.weak (s' := ⟨[(k, o)], 0⟩) hm0 hm' ⟨.inl ⟨hkm, o', ho', hle⟩, trivial⟩).sto k o (by simp [aget])
    | cells hle =>
      refine ⟨Nat.lt_of_lt_of_le hkm hm', ?_⟩
      obtain ⟨b, arr, e, e1, e2, e3, e4⟩ := (h.sto k _ ho').2
      obtain ⟨q1, q2⟩ := hle.spec
      refine ⟨b, arr, e, cut_obj e1 hkm, e2, by rw [e3]; exact q1, fun j v d a1 a2 => ?_⟩
      have hlt : j < _ := (List.getElem?_eq_some_iff.1 a2).1
      rw [← q1] at hlt
      have hc := List.getElem?_eq_getElem hlt
      exact q2 j _ d hc a2 Λ v hm0 h (e4 j v _ a1 hc)
    | gro hle =>
      refine ⟨Nat.lt_of_lt_of_le hkm hm', ?_⟩
      obtain ⟨g0, hr⟩ := (h.sto k _ ho').2
      obtain ⟨q1, q2⟩ := hle.spec
      refine ⟨by simp [L.cut, hkm, g0], ?_⟩
      rcases hr with ⟨e1, e2⟩ | ⟨b, arr, e, ⟨i, e1, e1'⟩, e2, e3, e4⟩
      · subst e1
        have := List.length_eq_zero_iff.1 q1.symm
        exact .inl ⟨this, fun b i hb => e2 b i (cut_fob_inv hb).1⟩
      · refine .inr ⟨b, arr, e, ⟨i, cut_fob e1 hkm, fun b' i' h' => e1' b' i' (cut_fob_inv h').1⟩, e2, by rw [← q1]; exact e3, fun j v d a1 a2 => ?_⟩
        have hlt : j < _ := (List.getElem?_eq_some_iff.1 a2).1
        rw [← q1] at hlt
        have hc := List.getElem?_eq_getElem hlt
        exact q2 j _ d hc a2 Λ v hm0 h (e4 j v _ a1 hc)
  · exact (h.weak (s' := ⟨[(k, o)], 0⟩) hm0 hm' ⟨.inr hfr, trivial⟩).sto k o (by simp [aget])

theorem Rel.weakZ {C : Ctx} {Λ : L} {st : St} {a : Act} (h : Rel C Λ st a) {st' : St} {m : Nat} (hm : C.Λ.nxt ≤ m) (hm0 : m ≤ Λ.nxt) (hm' : m ≤ st'.s.nxt)
    (he : LeEZ st.s m st'.s.nxt st.env st'.env) (hs : LeSZ st.s m st'.s.nxt st'.s.sto) : Rel C (Λ.cut m st'.s.nxt) st' a :=
  ⟨h.kp.cut hm hm', h.size, h.defers, fun t => he.at t Λ _ hm0 h.s (h.env t), h.s.weakZ hm0 hm' hs⟩

section
variable {P : Program} {n m : Nat} {R : St → Prop} {Q : AExit → St → Prop} {st : St}
theorem Sat.weakZ {c : ACode} {st' : St} (k : Nat) (h : Sat P n m c st' Q) (h1 : m ≤ k) (h2 : k ≤ st.s.nxt) (h3 : k ≤ st'.s.nxt) (he : LeEZ st.s k st'.s.nxt st.env st'.env) (hs : LeSZ st.s k st'.s.nxt st'.s.sto) : Sat P n m c st Q := by
  intro code e1 e2 e3 C Λ a e4 e5 e6 e7 e8
  exact h code e1 e2 e3 C (Λ.cut k st'.s.nxt) a e4 e5 e6 (e7.weakZ (by omega) (by omega) h3 he hs) rfl
/-- Knowing less ahead of code, with the objects in view; j names are kept. -/
theorem Run.weakZ {k k' : List It} {c : ACode} {st st' : St} (j : Nat) (hk : advK 200 k = .c c :: k') (h : Run P n m R (.c c :: k') st') (h1 : Nat.ble m j = true) (h2 : Nat.ble j st.s.nxt = true) (h3 : Nat.ble j st'.s.nxt = true) (he : LeEZ st.s j st'.s.nxt st.env st'.env) (hs : LeSZ st.s j st'.s.nxt st'.s.sto) : Run P n m R k st :=
  Run.adv 200 hk (by
    simp only [Run, contQ] at h ⊢
    exact Sat.weakZ j h (Nat.le_of_ble_eq_true h1) (Nat.le_of_ble_eq_true h2) (Nat.le_of_ble_eq_true h3) he hs)
end

/- ---------- lists whose elements have some cells each ---------- -/

def gT {α : Type} (g : α → List T) : α → List V := fun x => (g x).map V.t
theorem gE_gT {α : Type} (g : α → List T) (l : List α) : gE (gT g) l = ((l.map g).flatten).map V.t := by
  simp only [gE, List.map_flatten, List.map_map]
  rfl
theorem cell1_gT {α : Type} (g : α → List T) (l : List α) : (gE (gT g) l).mapM V.cell1 = some (l.map g).flatten := by
  rw [gE_gT]
  have := cell1_cE (fun t : T => t) (l.map g).flatten
  simpa [cE] using this
theorem addV_t {α : Type} {st : St} {sz : Nat} {y : V} {g : α → List T} {l : List α} (hy : y.cell1 = some (.lst (l.map g))) (hl : ∀ x, (g x).length = sz) : addV st sz y = some (gE (gT g) l, l.length) := by
  unfold addV
  rw [hy]
  simp only
  rw [allLen_map hl l, gE_gT]
  simp
theorem gE_cellOk {α : Type} {f : α → List V} (h : ∀ x, (f x).all V.cellOk = true) (l : List α) : (gE f l).all V.cellOk = true := by
  simp only [List.all_eq_true] at h ⊢
  intro v hv
  simp only [gE, List.mem_flatten, List.mem_map] at hv
  obtain ⟨c, ⟨x, _, rfl⟩, hv⟩ := hv
  exact h x v hv
theorem gT_cellOk {α : Type} (g : α → List T) (x : α) : (gT g x).all V.cellOk = true := by
  simp [gT, V.cellOk]
theorem gT_length {α : Type} {g : α → List T} {sz : Nat} (h : ∀ x, (g x).length = sz) (x : α) : (gT g x).length = sz := by simp [gT, h]
theorem setAt_app (a b : List V) : ∀ (vs : List V) (o : Nat), setAt (a ++ b) (a.length + o) vs = a ++ setAt b o vs
  | [], o => rfl
  | v :: r, o => by
    have := setAt_app a (b.set o v) r (o + 1)
    simp only [setAt]
    rw [List.set_append, if_neg (by omega), Nat.add_sub_cancel_left, Nat.add_assoc, this]
theorem setAt_left (b : List V) : ∀ (vs a : List V) (o : Nat), o + vs.length ≤ a.length → setAt (a ++ b) o vs = setAt a o vs ++ b
  | [], a, o, _ => rfl
  | v :: r, a, o, h => by
    simp only [List.length_cons] at h
    have := setAt_left b r (a.set o v) (o + 1) (by simp; omega)
    simp only [setAt]
    rw [List.set_append, if_pos (by omega), this]
theorem gE_set {α : Type} {f : α → List V} {sz : Nat} (h : ∀ x, (f x).length = sz) (vs : List V) : ∀ (l : List α) (i j : Nat) (e e' : α), l[i]? = some e → j + vs.length ≤ sz → setAt (f e) j vs = f e' → setAt (gE f l) (i * sz + j) vs = gE f (l.set i e')
  | [], i, j, e, e', hi, _, _ => by simp at hi
  | x :: r, 0, j, e, e', hi, hj, he => by
    simp at hi; subst hi
    simp only [gE, List.map_cons, List.flatten_cons, Nat.zero_mul, Nat.zero_add, List.set_cons_zero]
    rw [setAt_left _ _ _ _ (by rw [h]; exact hj), he]
  | x :: r, i + 1, j, e, e', hi, hj, he => by
    have := gE_set h vs r i j e e' (by simpa using hi) hj he
    simp only [gE, List.map_cons, List.flatten_cons, List.set_cons_succ] at this ⊢
    have e2 : (i + 1) * sz + j = (f x).length + (i * sz + j) := by rw [h, Nat.add_mul]; omega
    rw [e2, setAt_app, this]

/-- the freeze of a whole list, or of its front -/
theorem LeZ.gE {α : Type} {s : S} {m m' k ver len sz : Nat} (g : α → List T) (l : List α) {l' : List α} (hk : m ≤ k) (hs : aget s.sto k = some (.gro ver (gE (gT g) l'))) (hl : l = l'.take len) (hn : len ≤ l'.length) (hg : ∀ x, (g x).length = sz) :
    LeZ s m m' (.gsl k ver 0 len sz) (.t (.lst (l.map g))) := by
  subst hl
  have hlen := gE_length (f := gT g) (gT_length hg)
  have e1 : ((Go.GB.gE (gT g) l').drop 0).take (len * sz) = Go.GB.gE (gT g) (l'.take len) := by
    have hsplit := gE_append (gT g) (l'.take len) (l'.drop len)
    rw [List.take_append_drop] at hsplit
    rw [List.drop_zero, hsplit, List.take_append]
    have e2 : (Go.GB.gE (gT g) (l'.take len)).length = len * sz := by rw [hlen, List.length_take, Nat.min_eq_left hn]
    rw [e2, Nat.sub_self, List.take_zero, List.append_nil, List.take_of_length_le (by omega)]
  refine LeZ.gsl (ts := ((l'.take len).map g).flatten) hk hs ?_ ?_ rfl (by simp; omega) (allLen_map hg _)
  · rw [hlen, Nat.zero_add]; exact Nat.mul_le_mul_right _ hn
  · rw [e1]; exact cell1_gT g _

section
variable {P : Program} {n m : Nat} {R : St → Prop}
variable {draw : Bool} {all : List AO} {after : List (List Nat)} {live : List Nat} {k : List It} {b : Nat} {fl : List (Bool × Bool)} {ops : List AO} {st st' : St} {d : Option Nat} {b' : Nat}

/-- append makes a growing array -/
theorem Mid.appGN {α : Type} (f : α → List V) (l2 : List α) {sz by_ : Nat} {x y : Ar} (hx : x.u st = .nils) (hy : addV st sz (y.u st) = some (gE f l2, l2.length)) (hc : ∀ x, (f x).all V.cellOk = true) (h1 : l2.length * by_ ≤ 140737488355328) (h2 : l2.length ≤ 9223372036854775807)
    (hst : stepS0 b st d { v := .gsl b 1 0 l2.length sz, ob := [(b, .gro 1 (gE f l2))], n := 1, rd := true } (fun b' st' => some (b', st')) = some (b', st'))
    (h' : Mid P n m R draw all after live k b' ((true, true) :: fl) ops st') : Mid P n m R draw all after live k b fl (⟨d, none, .app sz by_ x y⟩ :: ops) st := by
  simp only [stepS0_eq, Option.some.injEq, Prod.mk.injEq] at hst
  obtain ⟨rfl, rfl⟩ := hst
  exact Mid.opY rfl (.appN hx hy (gE_cellOk hc _) h1 h2) h'
/-- a store into an element -/
theorem Mid.stG {α : Type} {f : α → List V} {l : List α} {e : α} (e' : α) (i j : Nat) {sz nn : Nat} {x v : Ar} {vs : List V} {q ver o : Nat} (hx : x.u st = .gpt q ver o) (hq : aget st.s.sto q = some (.gro ver (gE f l))) (hv : (v.u st).parts = some vs) (hn : Nat.beq vs.length nn = true) (hc : vs.all V.cellOk = true) (ho : o = i * sz + j) (hsz : ∀ x, (f x).length = sz) (he : l[i]? = some e) (hj : j + nn ≤ sz) (hset : setAt (f e) j vs = f e')
    (hst : stepS0 b st d { v := .top, ob := [(q, .gro ver (gE f (l.set i e')))], rd := true } (fun b' st' => some (b', st')) = some (b', st'))
    (h' : Mid P n m R draw all after live k b' ((true, true) :: fl) ops st') : Mid P n m R draw all after live k b fl (⟨d, none, .st nn x v⟩ :: ops) st := by
  simp only [stepS0_eq, Option.some.injEq, Prod.mk.injEq] at hst
  obtain ⟨rfl, rfl⟩ := hst
  have hn' := Nat.eq_of_beq_eq_true hn
  have hi : i < l.length := (List.getElem?_eq_some_iff.1 he).1
  have hle : o + nn ≤ (gE f l).length := by
    rw [gE_length hsz, ho]
    have : (i + 1) * sz ≤ l.length * sz := Nat.mul_le_mul_right _ hi
    rw [Nat.add_mul] at this; omega
  refine Mid.opY rfl (.stG hx hq rfl hv hn' hle hc) ?_
  rw [ho, gE_set hsz vs l i j e e' he (by rw [hn']; exact hj) hset]
  exact h'
end
end Go.GB


/-
  F23Q: one more use of an unknown directive adds exactly one violation.
-/
namespace Go.GB.C23
open Go.GB Go.GB.C11
set_option linter.unusedSimpArgs false
set_option linter.unusedVariables false
set_option maxRecDepth 100000
set_option maxHeartbeats 4000000
variable {P : Program}

/- the plain law -/
theorem chkD_app : ∀ (a b : List Def), chkD (a ++ b) = chkD a ++ chkD b
  | [], b => rfl
  | t :: r, b => by simp [chkD, chkD_app r b]
theorem usesF_app (pl : Int) (at_ : Str) : ∀ (l pre k : List Dir), usesF pl at_ pre (l ++ k) = usesF pl at_ pre l ++ usesF pl at_ (pre ++ l) k
  | [], pre, k => by simp [usesF]
  | x :: r, pre, k => by simp [usesF, usesF_app pl at_ r (pre ++ [x]) k]
def unkN (n : Str) : Bool := hasD n [⟨[107, 101, 121], []⟩, ⟨[116, 97, 103], []⟩, ⟨[97, 117, 116, 104, 101, 110, 116, 105, 99, 97, 116, 101, 100], []⟩, ⟨[115, 99, 111, 112, 101, 115], []⟩, ⟨[99, 97, 99, 104, 101, 67, 111, 110, 116, 114, 111, 108], []⟩]
theorem ite_cases {α : Type} {c : Prop} [Decidable c] {a b x : α} {G : Prop} (h : (if c then a else b) = x) (h1 : c → a = x → G) (h2 : ¬ c → b = x → G) : G := by
  by_cases hc : c
  · rw [if_pos hc] at h; exact h1 hc h
  · rw [if_neg hc] at h; exact h2 hc h
theorem judge_unknown {n : Str} (hn : unkN n = false) {pl : Int} (hp : pl = 1 ∨ pl = 2) (pre : List Dir) : judgeF pre ⟨n, []⟩ pl = 29 := by
  unfold judgeF
  cases hr : ruleF n with
  | none => rfl
  | some r =>
    have : atP r.places pl = false := by
      simp only [unkN, hasD, List.any_cons, List.any_nil, Bool.or_false, Bool.or_eq_false_iff, beq_eq_false_iff_ne, ne_eq] at hn
      obtain ⟨h1, h2, h3, h4, h5⟩ := hn
      unfold ruleF at hr
      rw [if_neg (fun e => h1 e.symm)] at hr
      have hp' : atP 4 pl = false ∧ atP 12 pl = false ∧ atP 28 pl = false := by rcases hp with rfl | rfl <;> decide
      refine ite_cases hr (fun e hr => by cases hr; exact hp'.1) (fun _ hr => ?_)
      refine ite_cases hr (fun e hr => by cases hr; exact hp'.1) (fun _ hr => ?_)
      refine ite_cases hr (fun e hr => by cases hr; exact hp'.1) (fun _ hr => ?_)
      refine ite_cases hr (fun e hr => by cases hr; exact hp'.1) (fun _ hr => ?_)
      refine ite_cases hr (fun e hr => by cases hr; exact hp'.1) (fun _ hr => ?_)
      refine ite_cases hr (fun e hr => absurd e.symm h2) (fun _ hr => ?_)
      refine ite_cases hr (fun e hr => absurd e.symm h3) (fun _ hr => ?_)
      refine ite_cases hr (fun e hr => absurd e.symm h4) (fun _ hr => ?_)
      refine ite_cases hr (fun e hr => by cases hr; exact hp'.2.1) (fun _ hr => ?_)
      refine ite_cases hr (fun e hr => by cases hr; exact hp'.2.1) (fun _ hr => ?_)
      refine ite_cases hr (fun e hr => absurd e.symm h5) (fun _ hr => ?_)
      refine ite_cases hr (fun e hr => by cases hr; exact hp'.2.2) (fun _ hr => ?_)
      cases hr
    simp [this]
/-- the document with one more use -/
def moreT (t : Def) (n : Str) : Def := { t with dirs := t.dirs ++ [⟨n, []⟩] }
theorem chk_more {ds : List Def} {i : Nat} {t : Def} (h : ds[i]? = some t) {n : Str} (hn : unkN n = false) : ∃ L R, chkD ds = L ++ R ∧ chkD (ds.set i (moreT t n)) = L ++ ⟨29, t.name⟩ :: R := by
  have hi : i < ds.length := (List.getElem?_eq_some_iff.1 h).1
  have e1 : ds = ds.take i ++ t :: ds.drop (i + 1) := by
    have h2 := List.getElem_of_getElem? h
    obtain ⟨_, h2⟩ := h2
    rw [← h2]; simp
  have e2 : ds.set i (moreT t n) = ds.take i ++ moreT t n :: ds.drop (i + 1) := by rw [List.set_eq_take_append_cons_drop]; simp [hi]
  refine ⟨chkD (ds.take i) ++ usesF (ownP t.kind) t.name [] t.dirs, partL t ++ chkD (ds.drop (i + 1)), ?_, ?_⟩
  · conv => lhs; rw [e1]
    rw [chkD_app]; simp [chkD, defL]
  · rw [e2, chkD_app]
    have hj := judge_unknown hn (pl := ownP t.kind) (by unfold ownP; split <;> simp) ([] ++ t.dirs)
    have hp : partL (moreT t n) = partL t := rfl
    simp only [chkD, defL, hp]
    have : usesF (ownP (moreT t n).kind) (moreT t n).name [] (moreT t n).dirs = usesF (ownP t.kind) t.name [] t.dirs ++ [⟨29, t.name⟩] := by
      show usesF (ownP t.kind) t.name [] (t.dirs ++ [⟨n, []⟩]) = _
      rw [usesF_app]
      simp only [usesF, hj]
      simp
    rw [this]; simp

/-- up to j nothing differs ahead of the place where x was put in -/
def Ahead (A B : List Fault) (x : Fault) (j : Nat) : Prop := ∃ L R, A = L ++ R ∧ B = L ++ x :: R ∧ j ≤ L.length
theorem Ahead.le {A B : List Fault} {x : Fault} {j : Nat} (h : Ahead A B x j) : j ≤ A.length := by
  obtain ⟨L, R, rfl, _, h⟩ := h; simp; omega
theorem Ahead.next {A B : List Fault} {x : Fault} {j : Nat} (h : Ahead A B x j) {y : Fault} (h1 : A[j]? = some y) (h2 : B[j]? = some y) : Ahead A B x (j + 1) := by
  obtain ⟨L, R, rfl, rfl, h⟩ := h
  by_cases hj : j < L.length
  · exact ⟨L, R, rfl, rfl, hj⟩
  · have e : j = L.length := by omega
    subst e
    simp at h1 h2
    subst h2
    cases R with
    | nil => simp at h1
    | cons r R =>
      simp at h1; subst h1
      exact ⟨L ++ [r], R, by simp, by simp, by simp⟩
theorem Ahead.stop {A B : List Fault} {x : Fault} {j : Nat} (h : Ahead A B x j) (hs : ∀ y, A[j]? = some y → B[j]? ≠ some y) : B[j]? = some x ∧ A.drop j = B.drop (j + 1) := by
  obtain ⟨L, R, rfl, rfl, h⟩ := h
  by_cases hj : j < L.length
  · exact absurd (by simp [List.getElem?_append_left hj, hj]) (hs L[j] (by simp [List.getElem?_append_left hj, hj]))
  · have e : j = L.length := by omega
    subst e
    simp
theorem unknown23_ok (H : Pr23 P) (ds : List Def) (hD0 : DocOk ds) (hdl : ds.length ≤ 549755813888) (hD : ∀ t, t ∈ ds → DefD t) (hl : (chkD ds).length ≤ 1099511627776) (hbig : ∀ t, t ∈ ds → t.dirs.length ≤ 1048576) (at_ : Int) (n : Str) (hn : n.length ≤ 140737488355328) : FnOk P 5 [docV ds, .t (.int .i64 at_), .t (.str n)] ⟨[], 0⟩ { v := .t (.bool true) } := by
  have hL := large_ok H.toPr ds hD0
  by_cases hb : largeF ds = true ∨ at_ < 0 ∨ (ds.length : Int) ≤ at_
  · refine FnOk.run H.i5 H.mixed rfl rfl ?_
    refine fR rfl ?_
    refine Mid.call (hL) rfl rfl rfl rfl ?_
    refine fM rfl ?_
    refine lMG rfl rfl rfl rfl ?_
    refine fM rfl ?_
    refine Mid.grdF rfl ?_ rfl rfl rfl ?_
    · rcases hb with h | h | h <;> simp [h]
    refine fM rfl ?_
    refine Mid.grdF rfl ?_ rfl rfl rfl ?_
    · rcases hb with h | h | h <;> simp [h]
    refine pu rfl ?_ (hp := ⟨by rcases hb with h | h | h <;> simp [h], trivial⟩)
    refine fM rfl ?_
    refine Run.condT rfl rfl rfl ?_
    refine fR rfl ?_
    refine Mid.call (ex12_ok H) rfl rfl rfl rfl ?_
    refine fM rfl ?_
    refine Run.fin rfl (EndOk.go ?_); exact .t rfl
  have hb0 : largeF ds = false := by
    cases h : largeF ds with
    | false => rfl
    | true => exact absurd (.inl h) hb
  have hb1 : 0 ≤ at_ := by omega
  have hb2 : at_ < ds.length := by omega
  obtain ⟨i, rfl⟩ : ∃ i : Nat, at_ = i := ⟨at_.toNat, by omega⟩
  clear hb
  have hi : i < ds.length := by omega
  rw [hb0] at hL
  obtain ⟨t, ht⟩ : ∃ t, ds[i]? = some t := ⟨ds[i], by simp [hi]⟩
  have htD := hD t (List.mem_of_getElem? ht)
  have htB := hbig t (List.mem_of_getElem? ht)
  have hmD : ∀ u, u ∈ ds.set i (moreT t n) → DefD u := by
    intro u hu
    rcases List.mem_or_eq_of_mem_set hu with hu | rfl
    · exact hD u hu
    · exact ⟨htD.nm, ⟨by simp only [moreT, List.length_append, List.length_singleton]; omega, fun d hd => by
        rcases List.mem_append.1 hd with hd | hd
        · exact htD.d.all d hd
        · rw [List.mem_singleton.1 hd]; exact ⟨by simp, hn, fun a ha => by simp at ha⟩⟩, htD.fl, htD.f, htD.ml, htD.m, htD.il, htD.i⟩
  refine FnOk.run H.i5 H.mixed rfl rfl ?_
  refine fR rfl ?_
  refine Mid.call (hL) rfl rfl rfl rfl ?_
  refine fM rfl ?_
  refine lMG rfl rfl rfl rfl ?_
  refine fM rfl ?_
  rw [show decide ((i : Int) < 0) = false from by simp, show decide ((i : Int) ≥ (ds.length : Int)) = false from by simp; omega]
  refine Mid.ungd rfl rfl rfl ?_
  refine Mid.bslP rfl rfl rfl ?_
  refine fM rfl ?_
  refine Mid.ungd rfl rfl rfl ?_
  refine Mid.call (hasD_ok H 19 [⟨[107, 101, 121], []⟩, ⟨[116, 97, 103], []⟩, ⟨[97, 117, 116, 104, 101, 110, 116, 105, 99, 97, 116, 101, 100], []⟩, ⟨[115, 99, 111, 112, 101, 115], []⟩, ⟨[99, 97, 99, 104, 101, 67, 111, 110, 116, 114, 111, 108], []⟩] (by decide) n (.inr rfl)) rfl rfl rfl rfl ?_
  refine fM rfl ?_
  refine Run.cond rfl rfl (fun hk => ?_) (fun hk => ?_)
  · refine fR rfl ?_
    refine Mid.call (ex12_ok H) rfl rfl rfl rfl ?_
    refine fM rfl ?_
    refine Run.fin rfl (EndOk.go ?_); exact .t rfl
  refine fR rfl ?_
  refine Mid.appGN (gT Def.enc) ds rfl (addV_t rfl (fun _ => rfl)) (gT_cellOk _) (by first | omega | (simp; omega) | (simp; done)) (by first | omega | (simp; omega) | (simp; done)) rfl ?_
  refine fM rfl ?_
  refine Mid.elemMap rfl rfl rfl ht rfl rfl ?_
  refine fM rfl ?_
  refine apN Dir.enc t.dirs rfl rfl rfl ?_ (h1 := by first | omega | (simp; omega) | (simp; done)) (h2 := by first | omega | (simp; omega) | (simp; done))
  refine fM rfl ?_
  refine apM Dir.enc t.dirs [(⟨n, []⟩ : Dir)] rfl rfl rfl rfl rfl ?_ (h1 := by first | omega | (simp; omega) | (simp; done)) (h2 := by first | omega | (simp; omega) | (simp; done))
  refine Mid.fast (f := 2) rfl trivial ?_
  refine rWeakC 3 rfl (st' := { env := [(1, .t (.int .i64 i)), (3, .ptr 0 0), (7, .ptr 1 0), (8, .t (.lst ((moreT t n).dirs.map Dir.enc)))], s := ⟨[(0, .cells [.t (.lst (ds.map Def.enc))]), (1, .cells [.gsl 2 1 0 ds.length 7]), (2, .gro 1 (gE (gT Def.enc) ds))], 3⟩ }) ?_ rfl rfl rfl
  refine fR rfl ?_
  refine pu rfl ?_
  refine fM rfl ?_
  refine Mid.stG (moreT t n) (i) 3 (sz := 7) rfl rfl rfl rfl rfl (by omega) (gT_length (fun _ => rfl)) (ht) (by decide) rfl rfl ?_
  refine Mid.fast (f := 1) rfl trivial ?_
  refine Run.weakZ 2 rfl (st' := { env := [(1, .t (.int .i64 i)), (3, .ptr 0 0), (7, .ptr 1 0)], s := ⟨[(0, .cells [.t (.lst (ds.map Def.enc))]), (1, .cells [.t (.lst ((ds.set i (moreT t n)).map Def.enc))])], 2⟩ }) ?_ rfl rfl rfl (by repeat' (first | exact trivial | exact LeZ.le (Nat.le_of_ble_eq_true rfl) (by first | exact LeX.t | exact LeX.top | exact LeX.same rfl | exact LeX.ownT | exact LeX.nilT | exact LeX.fowT | exact LeX.tEq (by simp)) | exact LeZ.gE _ _ (Nat.le_of_ble_eq_true rfl) rfl (by first | exact List.take_length.symm | exact (List.take_of_length_le (by simp)).symm | simp) (by simp) (fun _ => rfl) | exact Or.inr ⟨Nat.le_of_ble_eq_true rfl, Nat.le_of_ble_eq_true rfl, rfl⟩ | refine Or.inl ⟨Nat.le_of_ble_eq_true rfl, _, rfl, ?_⟩ | refine LeOZ.cells ?_ | exact LeOZ.le (LeO.arr (by first | rfl | simp)) | exact LeOZ.le (LeO.cE (by first | rfl | simp)) | exact LeOZ.le (LeO.mE (by first | rfl | simp) (by first | exact Or.inl rfl | exact Or.inr rfl)) | refine LeZs.cons ?_ ?_ | exact LeZs.nil | refine And.intro ?_ ?_)) (by repeat' (first | exact trivial | exact LeZ.le (Nat.le_of_ble_eq_true rfl) (by first | exact LeX.t | exact LeX.top | exact LeX.same rfl | exact LeX.ownT | exact LeX.nilT | exact LeX.fowT | exact LeX.tEq (by simp)) | exact LeZ.gE _ _ (Nat.le_of_ble_eq_true rfl) rfl (by first | exact List.take_length.symm | exact (List.take_of_length_le (by simp)).symm | simp) (by simp) (fun _ => rfl) | exact Or.inr ⟨Nat.le_of_ble_eq_true rfl, Nat.le_of_ble_eq_true rfl, rfl⟩ | refine Or.inl ⟨Nat.le_of_ble_eq_true rfl, _, rfl, ?_⟩ | refine LeOZ.cells ?_ | exact LeOZ.le (LeO.arr (by first | rfl | simp)) | exact LeOZ.le (LeO.cE (by first | rfl | simp)) | exact LeOZ.le (LeO.mE (by first | rfl | simp) (by first | exact Or.inl rfl | exact Or.inr rfl)) | refine LeZs.cons ?_ ?_ | exact LeZs.nil | refine And.intro ?_ ?_))
  refine fR rfl ?_
  have hkey : unkN n = false := by simpa [unkN] using hk
  obtain ⟨L, R, ea, eb⟩ := chk_more ht hkey
  have k1 := chk_ok H ds (by omega) hD (by omega)
  have hlen : (chkD (ds.set i (moreT t n))).length = (chkD ds).length + 1 := by rw [ea, eb]; simp; omega
  have k2 := chk_ok H (ds.set i (moreT t n)) (by simp; omega) hmD (by omega)
  have hA0 : Ahead (chkD ds) (chkD (ds.set i (moreT t n))) ⟨29, t.name⟩ 0 := ⟨L, R, ea, eb, by simp⟩
  generalize chkD ds = A at *
  generalize chkD (ds.set i (moreT t n)) = B at *
  refine Mid.call (k1) rfl rfl rfl rfl ?_
  refine fM rfl ?_
  refine Mid.call (k2) rfl rfl rfl rfl ?_
  refine fM rfl ?_
  refine lM rfl rfl rfl ?_
  refine fM rfl ?_
  refine lM rfl rfl rfl ?_
  refine aL rfl rfl rfl rfl rfl ?_
  refine fM rfl ?_
  refine Run.condF rfl rfl (by simp; omega) ?_
  refine fR rfl ?_
  refine rLoopM (β := Nat) (fun j => { env := [(1, .t (.int .i64 i)), (3, .ptr 0 0), (9, .t (.lst (A.map Fault.enc))), (10, .t (.lst (B.map Fault.enc))), (11, .t (.int .i64 j))], s := ⟨[(0, .cells [.t (.lst (ds.map Def.enc))])], 1⟩ }) (fun j => Ahead A B ⟨29, t.name⟩ j) (fun j => A.length - j) 1 0 rfl hA0 rfl rfl rfl ?_
  intro j hj ih
  have hjl := hj.le
  have tail : (∀ y, A[j]? = some y → B[j]? ≠ some y) → ∃ w, w = (⟨29, t.name⟩ : Fault) ∧ B[j]? = some w ∧ FnOk P 16 [.t (.lst ((A.drop j).map Fault.enc)), .t (.lst ((B.drop (j + 1)).map Fault.enc))] ⟨[], 0⟩ { v := .t (.bool true) } := by
    intro hs
    obtain ⟨hBj, hdr⟩ := hj.stop hs
    have hf := faults_ok H.toPr (A.drop j) (B.drop (j + 1)) (by simp; omega) (by simp; omega)
    rw [decide_eq_true hdr] at hf
    exact ⟨_, rfl, hBj, hf⟩
  have hjB : j + 1 ≤ B.length := by omega
  refine fR rfl ?_
  refine lM rfl rfl rfl ?_
  refine fM rfl ?_
  by_cases hlt : j < A.length
  · obtain ⟨y, hy⟩ : ∃ y, A[j]? = some y := ⟨A[j], by simp [hlt]⟩
    obtain ⟨z, hz⟩ : ∃ z, B[j]? = some z := ⟨B[j]'(by omega), by simp⟩
    refine elG rfl rfl rfl rfl hy rfl rfl ?_
    refine fM rfl ?_
    refine elG rfl rfl rfl rfl hz rfl rfl ?_
    refine fM rfl ?_
    refine gr rfl ?_
    refine fM rfl ?_
    refine Run.cond rfl rfl (fun hc => ?_) (fun hc => ?_)
    · have hc' : y = z := by
        simp [keyEq, T.eqb] at hc
        cases y; cases z; simp at hc ⊢; exact hc.2
      refine fR rfl ?_
      refine aL rfl rfl rfl rfl rfl ?_
      refine fM rfl ?_
      exact rWeak 1 rfl (ih (j + 1) (by omega) (hj.next hy (hc' ▸ hz))) rfl rfl rfl
    · have hc' : ¬ y = z := by
        rintro rfl
        simp [keyEq, T.eqb] at hc; omega
      refine fR rfl ?_
      obtain ⟨w, hw, hBj, hf⟩ := tail (fun u h1 h2 => hc' (by rw [hy] at h1; rw [hz] at h2; simp at h1 h2; rw [h1, h2]))
      refine Mid.elemMap rfl rfl rfl hBj rfl rfl ?_
      refine fM rfl ?_
      refine Mid.elemMap rfl rfl rfl ht rfl rfl ?_
      refine fM rfl ?_
      refine p0 rfl ?_
      refine fM rfl ?_
      refine Run.condF rfl rfl (by simp [hw, keyEq, T.eqb]) ?_
      refine fR rfl ?_
      refine lFrom rfl rfl rfl rfl ?_
      refine fM rfl ?_
      refine aL rfl rfl rfl rfl rfl ?_
      refine lFrom rfl rfl rfl rfl ?_
      refine Mid.call (hf) rfl rfl rfl rfl ?_
      refine fM rfl ?_
      refine caG rfl rfl (fun hg => ⟨_, rfl, ex12_ok H, rfl⟩) rfl rfl ?_
      refine fM rfl ?_
      refine Run.fin rfl (EndOk.go ?_); exact .t rfl
  · have hnone : A[j]? = none := List.getElem?_eq_none (by omega)
    rw [show decide ((j : Int) < (A.length : Int)) = false from by simp; omega]
    obtain ⟨z, hz⟩ : ∃ z, B[j]? = some z := ⟨B[j]'(by omega), by simp⟩
    refine Mid.grdF (l := false) rfl rfl (by change (match (A.map Fault.enc)[((j : Nat) : Int).toNat]? with | some c => _ | none => none) = none; simp [hnone]) rfl rfl ?_
    refine Mid.grdF rfl rfl rfl rfl rfl ?_
    refine fM rfl ?_
    refine elG rfl rfl rfl rfl hz rfl rfl ?_
    refine fM rfl ?_
    refine Mid.grdF rfl rfl rfl rfl rfl ?_
    refine fM rfl ?_
    refine Run.condF rfl rfl rfl ?_
    refine fR rfl ?_
    obtain ⟨w, hw, hBj, hf⟩ := tail (fun u h1 => by rw [hnone] at h1; cases h1)
    refine Mid.elemMap rfl rfl rfl hBj rfl rfl ?_
    refine fM rfl ?_
    refine Mid.elemMap rfl rfl rfl ht rfl rfl ?_
    refine fM rfl ?_
    refine p0 rfl ?_
    refine fM rfl ?_
    refine Run.condF rfl rfl (by simp [hw, keyEq, T.eqb]) ?_
    refine fR rfl ?_
    refine lFrom rfl rfl rfl rfl ?_
    refine fM rfl ?_
    refine aL rfl rfl rfl rfl rfl ?_
    refine lFrom rfl rfl rfl rfl ?_
    refine Mid.call (hf) rfl rfl rfl rfl ?_
    refine fM rfl ?_
    refine caG rfl rfl (fun hg => ⟨_, rfl, ex12_ok H, rfl⟩) rfl rfl ?_
    refine fM rfl ?_
    refine Run.fin rfl (EndOk.go ?_); exact .t rfl
end Go.GB.C23


/-
  F23R: the law of an unknown directive, for documents of bounded bulk.
-/
namespace Go.GB.C23
open Go.GB Go.GB.C11
variable {P : Program}
theorem unknown23U_ok (H : Pr23 P) (ds : List Def) (ho : DocOk ds) (hb : bulkLL (ds.map Def.enc) ≤ 1048576) (i : Int) (n : Str) (hn : n.length ≤ 140737488355328) : FnOk P 5 [docV ds, .t (.int .i64 i), .t (.str n)] ⟨[], 0⟩ { v := .t (.bool true) } := by
  have h1 := chkD_len ds
  have h2 := docL_of (ds := ds) hb
  refine unknown23_ok H ds ho (by omega) (docD_of ho hb) (by omega) (fun t ht => ?_) i n hn
  have h3 := mem_bulk (f := Def.enc) ht
  have h4 := dirs_b t.dirs
  simp only [Def.enc, bulkL, T.bulk] at h3
  omega
end Go.GB.C23


/-
  GbSh: what a law is handed, of package api's types.
-/
namespace Go.GB
open Go.RowKit
set_option linter.unusedSimpArgs false
set_option linter.unusedVariables false

def valSh : List Sh := [.int .i64, .int .i64, .str, .num 0, .lst 16 [.str]]
def argSh : List Sh := .str :: valSh
def dirSh : List Sh := [.str, .lst 96 argSh]
def refSh : List Sh := [.str, .lst 8 [.int .i64]]
def inputSh : List Sh := [.str] ++ refSh ++ [.bool] ++ valSh ++ [.lst 40 dirSh]
def fieldSh : List Sh := [.str, .lst 168 inputSh] ++ refSh ++ [.lst 40 dirSh]
def memberSh : List Sh := [.str, .lst 40 dirSh]
def defSh : List Sh := [.int .i64, .str, .lst 16 [.str], .lst 40 dirSh, .lst 104 fieldSh, .lst 40 memberSh, .lst 168 inputSh]
def docSh : List Sh := [.lst 144 defSh]
/-- lists of types that contain themselves -/
def YA : Nat → T → Prop
  | 0, x => ∃ l : List Val, x = .lst (l.map Val.enc) ∧ l.length * 80 ≤ B47 ∧ ∀ v ∈ l, v.Ok
  | _, x => ∃ l : List Pick, x = .lst (l.map Pick.enc) ∧ l.length * 160 ≤ B47 ∧ ∀ p ∈ l, p.Ok ∧ p.on.length ≤ maxLen

theorem reach_le : reachBytes ≤ 140737488355328 := by decide
theorem strs_of {Y : Nat → T → Prop} {x : T} {b : Nat} (h : (Sh.lst b [.str]).ok Y x) : ∃ l : List Str, x = .lst (l.map sE) ∧ l.length * b ≤ reachBytes ∧ ∀ s ∈ l, s.length ≤ reachBytes := by
  obtain ⟨xs, rfl, h1, _, h2⟩ := h
  obtain ⟨l, rfl, h3⟩ := choose_map (f := sE) (Q := fun s => s.length ≤ reachBytes) xs fun c hc => by
    obtain ⟨x, r, rfl, ⟨s, rfl, hs⟩, h⟩ := Sh.oks_cons (h2 c hc)
    obtain rfl := Sh.oks_nil h
    exact ⟨s, rfl, hs⟩
  exact ⟨l, rfl, by simpa using h1, h3⟩
theorem nums_of {Y : Nat → T → Prop} {x : T} {b : Nat} (h : (Sh.lst b [.int .i64]).ok Y x) : ∃ l : List Int, x = .lst (l.map nE) ∧ l.length * b ≤ reachBytes := by
  obtain ⟨xs, rfl, h1, _, h2⟩ := h
  obtain ⟨l, rfl, h3⟩ := choose_map (f := nE) (Q := fun _ => True) xs fun c hc => by
    obtain ⟨x, r, rfl, ⟨s, rfl, hs⟩, h⟩ := Sh.oks_cons (h2 c hc)
    obtain rfl := Sh.oks_nil h
    exact ⟨s, rfl, trivial⟩
  exact ⟨l, rfl, by simpa using h1⟩
theorem list_of {α : Type} {f : α → List T} {Q : α → Prop} {Y : Nat → T → Prop} {x : T} {b : Nat} {sh : List Sh} (hf : ∀ c, Sh.oks Y sh c → ∃ a, c = f a ∧ Q a) (h : (Sh.lst b sh).ok Y x) : ∃ l : List α, x = .lst (l.map f) ∧ l.length * b ≤ reachBytes ∧ l.length ≤ maxLen ∧ ∀ a ∈ l, Q a := by
  obtain ⟨xs, rfl, h1, h0, h2⟩ := h
  obtain ⟨l, rfl, h3⟩ := choose_map (f := f) (Q := Q) xs fun c hc => hf c (h2 c hc)
  exact ⟨l, rfl, by simpa using h1, by simpa using h0, h3⟩

/-- the shape of a value -/
theorem val_sh {r : List Sh} {c : List T} (h : Sh.oks YA (valSh ++ r) c) : ∃ (v : Val) (c' : List T), c = v.cs ++ c' ∧ v.Ok ∧ Sh.oks YA r c' := by
  obtain ⟨x1, c, rfl, ⟨k, rfl, _⟩, g1⟩ := Sh.oks_cons h
  obtain ⟨x2, c, rfl, ⟨i, rfl, _⟩, g2⟩ := Sh.oks_cons g1
  obtain ⟨x3, c, rfl, ⟨t, rfl, ht⟩, g3⟩ := Sh.oks_cons g2
  obtain ⟨x4, c, rfl, ⟨its, rfl, hi1, hi2⟩, g4⟩ := Sh.oks_cons g3
  obtain ⟨x5, c, rfl, hk, g5⟩ := Sh.oks_cons g4
  obtain ⟨ks, rfl, hk1, hk2⟩ := strs_of hk
  have := reach_le
  refine ⟨.mk k i t its ks, c, rfl, .mk hi1 (by unfold B47; omega) hi2 (by omega) (fun x hx => by have := hk2 x hx; omega), g5⟩
theorem val_sh0 {c : List T} (h : Sh.oks YA valSh c) : ∃ v : Val, c = v.enc ∧ v.Ok := by
  obtain ⟨v, c', rfl, h1, h2⟩ := val_sh (r := []) (by simpa using h)
  obtain rfl := Sh.oks_nil h2
  exact ⟨v, by rw [Val.enc_eq, List.append_nil], h1⟩
theorem arg_sh {c : List T} (h : Sh.oks YA argSh c) : ∃ a : Arg, c = a.enc ∧ a.Ok := by
  obtain ⟨x, c, rfl, ⟨n, rfl, _⟩, g1⟩ := Sh.oks_cons h
  obtain ⟨v, c', rfl, h1, h2⟩ := val_sh (r := []) (by simpa using g1)
  obtain rfl := Sh.oks_nil h2
  exact ⟨⟨n, v⟩, by simp [Arg.enc, Val.cs], h1⟩
theorem dir_sh {c : List T} (h : Sh.oks YA dirSh c) : ∃ a : Dir, c = a.enc ∧ a.Ok := by
  have := reach_le
  obtain ⟨x, c, rfl, ⟨n, rfl, hn⟩, g1⟩ := Sh.oks_cons h
  obtain ⟨x, c, rfl, hx, g2⟩ := Sh.oks_cons g1
  obtain rfl := Sh.oks_nil g2
  obtain ⟨l, rfl, h1, _, h2⟩ := list_of (fun c hc => arg_sh hc) hx
  exact ⟨⟨n, l⟩, rfl, ⟨by show l.length ≤ _; omega, h2, by show n.length ≤ _; omega⟩⟩
theorem dirs_sh {b : Nat} (hb : 0 < b) {x : T} (h : (Sh.lst b dirSh).ok YA x) : ∃ l : List Dir, x = .lst (l.map Dir.enc) ∧ l.length ≤ 140737488355328 ∧ ∀ d ∈ l, d.Ok := by
  have := reach_le
  obtain ⟨l, rfl, h1, _, h2⟩ := list_of (fun c hc => dir_sh hc) h
  refine ⟨l, rfl, ?_, h2⟩
  have : l.length ≤ l.length * b := Nat.le_mul_of_pos_right _ hb
  omega
theorem ref_sh {r : List Sh} {c : List T} (h : Sh.oks YA (refSh ++ r) c) : ∃ (v : Ref) (c' : List T), c = .str v.name :: .lst (v.wraps.map nE) :: c' ∧ v.Ok ∧ Sh.oks YA r c' := by
  have := reach_le
  obtain ⟨x1, c, rfl, ⟨n, rfl, hn⟩, g1⟩ := Sh.oks_cons h
  obtain ⟨x5, c, rfl, hk, g2⟩ := Sh.oks_cons g1
  obtain ⟨ks, rfl, hk1⟩ := nums_of hk
  exact ⟨⟨n, ks⟩, c, rfl, ⟨by show ks.length * 8 ≤ _; omega, by show n.length ≤ _; omega⟩, g2⟩
theorem input_sh {c : List T} (h : Sh.oks YA inputSh c) : ∃ a : Input, c = a.enc ∧ a.Ok := by
  have := reach_le
  obtain ⟨x, c, rfl, ⟨n, rfl, hn⟩, g1⟩ := Sh.oks_cons h
  obtain ⟨t, c, rfl, ht, g2⟩ := ref_sh g1
  obtain ⟨x, c, rfl, ⟨b, rfl⟩, g3⟩ := Sh.oks_cons g2
  obtain ⟨v, c, rfl, hv, g4⟩ := val_sh g3
  obtain ⟨x, c, rfl, hx, g5⟩ := Sh.oks_cons g4
  obtain rfl := Sh.oks_nil g5
  obtain ⟨l, rfl, h1, h2⟩ := dirs_sh (by decide) hx
  exact ⟨⟨n, t, b, v, l⟩, by simp [Input.enc, Val.cs], ⟨ht, hv, h1, h2, by show n.length ≤ _; omega⟩⟩
theorem inputs_sh {x : T} (h : (Sh.lst 168 inputSh).ok YA x) : ∃ l : List Input, x = .lst (l.map Input.enc) ∧ l.length ≤ 140737488355328 ∧ ∀ d ∈ l, d.Ok := by
  have := reach_le
  obtain ⟨l, rfl, h1, _, h2⟩ := list_of (fun c hc => input_sh hc) h
  exact ⟨l, rfl, by omega, h2⟩
theorem field_sh {c : List T} (h : Sh.oks YA fieldSh c) : ∃ a : Field, c = a.enc ∧ a.Ok := by
  have := reach_le
  obtain ⟨x, c, rfl, ⟨n, rfl, hn⟩, g1⟩ := Sh.oks_cons h
  obtain ⟨x, c, rfl, hx, g2⟩ := Sh.oks_cons g1
  obtain ⟨ins, rfl, i1, i2⟩ := inputs_sh hx
  obtain ⟨t, c, rfl, ht, g3⟩ := ref_sh g2
  obtain ⟨x, c, rfl, hx, g4⟩ := Sh.oks_cons g3
  obtain rfl := Sh.oks_nil g4
  obtain ⟨l, rfl, h1, h2⟩ := dirs_sh (by decide) hx
  exact ⟨⟨n, ins, t, l⟩, rfl, ⟨i1, i2, ht, h1, h2, by show n.length ≤ _; omega⟩⟩
theorem member_sh {c : List T} (h : Sh.oks YA memberSh c) : ∃ a : Member, c = a.enc ∧ a.Ok := by
  have := reach_le
  obtain ⟨x, c, rfl, ⟨n, rfl, hn⟩, g1⟩ := Sh.oks_cons h
  obtain ⟨x, c, rfl, hx, g2⟩ := Sh.oks_cons g1
  obtain rfl := Sh.oks_nil g2
  obtain ⟨l, rfl, h1, h2⟩ := dirs_sh (by decide) hx
  exact ⟨⟨n, l⟩, rfl, ⟨h1, h2, by show n.length ≤ _; omega⟩⟩
theorem def_sh {c : List T} (h : Sh.oks YA defSh c) : ∃ a : Def, c = a.enc ∧ a.Ok := by
  have := reach_le
  obtain ⟨x, c, rfl, ⟨k, rfl, _⟩, g1⟩ := Sh.oks_cons h
  obtain ⟨x, c, rfl, ⟨n, rfl, hn⟩, g2⟩ := Sh.oks_cons g1
  obtain ⟨x, c, rfl, hx, g3⟩ := Sh.oks_cons g2
  obtain ⟨im, rfl, a1, a2⟩ := strs_of hx
  obtain ⟨x, c, rfl, hx, g4⟩ := Sh.oks_cons g3
  obtain ⟨ds, rfl, b1, b2⟩ := dirs_sh (by decide) hx
  obtain ⟨x, c, rfl, hx, g5⟩ := Sh.oks_cons g4
  obtain ⟨fs, rfl, c1, _, c2⟩ := list_of (fun c hc => field_sh hc) hx
  obtain ⟨x, c, rfl, hx, g6⟩ := Sh.oks_cons g5
  obtain ⟨ms, rfl, d1, _, d2⟩ := list_of (fun c hc => member_sh hc) hx
  obtain ⟨x, c, rfl, hx, g7⟩ := Sh.oks_cons g6
  obtain ⟨is, rfl, e1, e2⟩ := inputs_sh hx
  obtain rfl := Sh.oks_nil g7
  exact ⟨⟨k, n, im, ds, fs, ms, is⟩, rfl, ⟨by show im.length ≤ _; omega, b1, b2, by show fs.length ≤ _; omega, c2, by show ms.length ≤ _; omega, d2, e1, e2, by show n.length ≤ _; omega, fun y hy => by have := a2 y hy; omega⟩⟩
theorem doc_sh {r : List Sh} {c : List T} (h : Sh.oks YA (docSh ++ r) c) : ∃ (l : List Def) (c' : List T), c = .lst (l.map Def.enc) :: c' ∧ DocOk l ∧ Sh.oks YA r c' := by
  have := reach_le
  obtain ⟨x, c, rfl, hx, g1⟩ := Sh.oks_cons h
  obtain ⟨l, rfl, h1, _, h2⟩ := list_of (fun c hc => def_sh hc) hx
  exact ⟨l, c, rfl, ⟨by omega, h2, by omega⟩, g1⟩
/-- the types that contain themselves -/
def spV (vt : TypeId) (e : TypeId) : Option Nat := if e = vt then some 0 else none
theorem val_wt {P : Program} {vt : TypeId} (hb : P.bytesOf vt = 80) (hs : shOf P (spV vt) 6 vt = some valSh) : ∀ (n : Nat) (c : List T), WT P n vt c → ∃ v : Val, c = v.enc ∧ v.Ok := by
  intro n
  induction n using Nat.strongRecOn with
  | _ n ih =>
    intro c h
    refine val_sh0 (shOf_ok (Y := YA) n 6 vt valSh c (fun e i k xs hk he hr hl hc => ?_) hs h)
    unfold spV at he
    split at he
    · rename_i e1; subst e1
      simp only [Option.some.injEq] at he; subst he
      obtain ⟨l, rfl, h3⟩ := choose_map (f := Val.enc) (Q := Val.Ok) xs fun c hcm => ih k hk c (hc c hcm)
      have := reach_le
      rw [hb] at hr
      exact ⟨l, rfl, by unfold B47; simp at hr; omega, h3⟩
    · cases he
/-- shapes that end there -/
theorem doc_sh0 {c : List T} (h : Sh.oks YA docSh c) : ∃ l : List Def, c = [.lst (l.map Def.enc)] ∧ DocOk l := by
  obtain ⟨l, c', rfl, h1, h2⟩ := doc_sh (r := []) h
  obtain rfl := Sh.oks_nil h2
  exact ⟨l, rfl, h1⟩
end Go.GB


/-
  D11R: shapes of chapter 11's arguments.
-/
namespace Go.GB.C11
open Go.GB

theorem spV_ok {P : Program} {vt : TypeId} (hb : P.bytesOf vt = 80) (hs : shOf P (spV vt) 6 vt = some valSh) :
    ∀ e i n xs, spV vt e = some i → xs.length * P.bytesOf e ≤ reachBytes → xs.length ≤ maxLen → (∀ c ∈ xs, WT P n e c) → YA i (.lst xs) := by
  have hv := val_wt hb hs
  intro e i k xs he hr hl hc
  have := reach_le
  unfold spV at he
  split at he
  · rename_i e1; subst e1
    simp only [Option.some.injEq] at he; subst he
    obtain ⟨l, rfl, h3⟩ := choose_map (f := Val.enc) (Q := Val.Ok) xs fun c hcm => hv k c (hc c hcm)
    rw [hb] at hr
    exact ⟨l, rfl, by unfold B47; simp at hr; omega, h3⟩
  · cases he
end Go.GB.C11


/-
  F25A: moves: sets of fields that directives name; keys of types.
-/
namespace Go.GB.C23
open Go.GB Go.GB.C11
set_option linter.unusedSimpArgs false
set_option linter.unusedVariables false
set_option maxRecDepth 100000
set_option maxHeartbeats 4000000
structure Pr25 (P : Program) : Prop extends Pr23 P where
  i64 : fnInfo P 64 = some (n64, c64.bare, r64)

variable {P : Program}

/- what is said of the texts of values -/
/-- directives of a document of bounded bulk -/
structure DK (ds : List Dir) : Prop where
  l : ds.length ≤ 1048576
  d : ∀ d, d ∈ ds → DOk d
theorem DK.len {l : List Dir} (h : DK l) : l.length ≤ 140737488355328 := by have := h.l; omega
/-- the set of fields of the first use of a directive -/
def setM (l : List Dir) (n : Str) : List Str := (setF ((argD n ([102, 105, 101, 108, 100, 115] : Str) l).getD Val.zero).text).1
/- keys -/
def keysD : List Dir → List (List Str)
  | [] => []
  | d :: r => (if d.name = ([107, 101, 121] : Str) then [setM [d] ([107, 101, 121] : Str)] else []) ++ keysD r
/- a field of a key -/
def isKeyM (l : List Dir) (f : Str) : Bool := (keysD l).any fun k => decide (f ∈ k)
end Go.GB.C23


/-
  F25B: moves: leaf types, fields that graphs resolve, fields that are external.
-/
namespace Go.GB.C23
open Go.GB Go.GB.C11
set_option linter.unusedSimpArgs false
set_option linter.unusedVariables false
set_option maxRecDepth 100000
set_option maxHeartbeats 4000000
variable {P : Program}

structure Graph where
  name : Str
  doc : List Def
def Graph.enc (g : Graph) : List T := [.str g.name, .lst (g.doc.map Def.enc)]
def Graph.v (g : Graph) : V := .agg [.t (.str g.name), .t (.lst (g.doc.map Def.enc))]

structure FK (x : Field) : Prop where
  d : DK x.dirs
  al : x.args.length ≤ 140737488355328
  w : x.ty.wraps.length ≤ 140737488355328
  nm : x.name.length ≤ 140737488355328
structure TK (t : Def) : Prop where
  d : DK t.dirs
  fl : t.fields.length ≤ 1048576
  f : ∀ x, x ∈ t.fields → FK x
  nm : t.name.length ≤ 140737488355328
structure GK (ds : List Def) : Prop where
  ok : DocOk ds
  l : ds.length ≤ 1048576
  t : ∀ t, t ∈ ds → TK t
theorem DK.nil : DK [] := ⟨by decide, by simp⟩
theorem FK.zero : FK Field.zero := ⟨DK.nil, by decide, by decide, by decide⟩
theorem TK.zero : TK Def.zero := ⟨DK.nil, by decide, by simp [Def.zero], by decide⟩
theorem GK.find {ds : List Def} (h : GK ds) (n : Str) : TK ((findDef n ds).getD Def.zero) := by
  cases hf : findDef n ds with
  | none => exact TK.zero
  | some t => exact h.t t (findDef_mem hf)
theorem TK.field {t : Def} (h : TK t) (n : Str) : FK ((findField n t.fields).getD Field.zero) := by
  cases hf : findField n t.fields with
  | none => exact FK.zero
  | some t => exact h.f t (findField_mem hf)
theorem GK.len {ds : List Def} (h : GK ds) : ds.length ≤ 140737488355328 := h.ok.l

def kindM (ds : List Def) (n : Str) : Int := ((findDef n ds).getD Def.zero).kind
def leafM (ds : List Def) (n : Str) : Bool := scalF n || kindM ds n == 4
def resM (ds : List Def) (n f : Str) : Bool :=
  (((findDef n ds).isSome && (findField f ((findDef n ds).getD Def.zero).fields).isSome) && ((findDef n ds).getD Def.zero).kind == 1) && !hasD ([101, 120, 116, 101, 114, 110, 97, 108] : Str) ((findField f ((findDef n ds).getD Def.zero).fields).getD Field.zero).dirs
def othM (a : Nat) (n f : Str) : Nat → List Graph → Bool
  | _, [] => false
  | i, g :: r => (((i : Int) != (a : Int)) && resM g.doc n f) || othM a n f (i + 1) r
/-- a name that is not an external field without arguments, of a leaf type -/
def outB (ds : List Def) (t : Def) (n : Str) : Bool :=
  ((!(findField n t.fields).isSome || !hasD ([101, 120, 116, 101, 114, 110, 97, 108] : Str) ((findField n t.fields).getD Field.zero).dirs) || decide ((((findField n t.fields).getD Field.zero).args.length : Int) > 0)) || !leafM ds ((findField n t.fields).getD Field.zero).ty.name
def outM (ds : List Def) (t : Def) (l : List Str) : Bool := !l.any (outB ds t) && decide ((l.length : Int) > 0)
end Go.GB.C23


/-
  F25C: moves: fields that are mentioned in a graph, and fields that graphs lean on.
-/
namespace Go.GB.C23
open Go.GB Go.GB.C11
set_option linter.unusedSimpArgs false
set_option linter.unusedVariables false
set_option maxRecDepth 100000
set_option maxHeartbeats 4000000
variable {P : Program}

/-- a field that another one requires -/
def reqM (f : Str) (l : List Field) : Bool := l.any fun x => decide (f ∈ setM x.dirs ([114, 101, 113, 117, 105, 114, 101, 115] : Str))
/-- does a graph lean on a field? -/
def leaG (n f : Str) (g : Graph) : Bool := !(((findDef n g.doc).getD Def.zero).kind != 1) && (isKeyM ((findDef n g.doc).getD Def.zero).dirs f || reqM f ((findDef n g.doc).getD Def.zero).fields)
/-- a field of a type that another field of that type provides -/
def prvM (f : Str) (n : Str) (k : Int) (y : Field) : Bool := (k == 1 && y.ty.name == n) && decide (f ∈ setM y.dirs ([112, 114, 111, 118, 105, 100, 101, 115] : Str))
def menM (ds : List Def) (t : Def) (f : Str) : Bool := isKeyM t.dirs f || (reqM f t.fields || ds.any fun x => x.fields.any (prvM f t.name x.kind))
end Go.GB.C23


/-
  F25D: moves: violations of keys.
-/
namespace Go.GB.C23
open Go.GB Go.GB.C11
set_option linter.unusedSimpArgs false
set_option linter.unusedVariables false
set_option maxRecDepth 100000
set_option maxHeartbeats 4000000
variable {P : Program}

def ifM (c : Bool) (x : Fault) : List Fault := if c then [x] else []
/- keys -/
def rootB (n : Str) : Bool := (n == [81, 117, 101, 114, 121] || n == [77, 117, 116, 97, 116, 105, 111, 110]) || n == [83, 117, 98, 115, 99, 114, 105, 112, 116, 105, 111, 110]
/-- a type that is not null, of a leaf type -/
def plainM (ds : List Def) (x : Field) : Bool := (match x.ty.wraps with | [w] => w == 1 | _ => false) && leafM ds x.ty.name
def keyN (ds : List Def) (t : Def) (b : Bool) (n : Str) : Bool :=
  ((b || !(findField n t.fields).isSome) || decide ((((findField n t.fields).getD Field.zero).args.length : Int) > 0)) || !plainM ds ((findField n t.fields).getD Field.zero)
def keyB (ds : List Def) (t : Def) (i : Nat) (k : List Str) : Bool := k.foldl (keyN ds t) ((decide ((i : Int) ≥ 4) || rootB t.name) || ((k.length : Int) == 0))
def keyL (g : Graph) (t : Def) : Nat → List (List Str) → List Fault
  | _, [] => []
  | i, k :: r => ifM (keyB g.doc t i k) ⟨41, g.name ++ [58] ++ t.name⟩ ++ keyL g t (i + 1) r
end Go.GB.C23


/-
  F25E: moves: violations of fields.
-/
namespace Go.GB.C23
open Go.GB Go.GB.C11
set_option linter.unusedSimpArgs false
set_option linter.unusedVariables false
set_option maxRecDepth 100000
set_option maxHeartbeats 4000000
variable {P : Program}

def placeM (g : Graph) (t : Def) (x : Field) : Str := g.name ++ [58] ++ (t.name ++ [46] ++ x.name)
def c1M (gs : List Graph) (a : Nat) (g : Graph) (t : Def) (x : Field) : Bool := hasD ([101, 120, 116, 101, 114, 110, 97, 108] : Str) x.dirs && (!menM g.doc t x.name || !othM a t.name x.name 0 gs)
def c2M (gs : List Graph) (g : Graph) (t : Def) (x : Field) : Bool := hasD ([114, 101, 113, 117, 105, 114, 101, 115] : Str) x.dirs && (((hasD ([101, 120, 116, 101, 114, 110, 97, 108] : Str) x.dirs || gs.any (leaG t.name x.name)) || (((keysD t.dirs).length : Int) == 0)) || !outM g.doc t (setM x.dirs ([114, 101, 113, 117, 105, 114, 101, 115] : Str)))
def c3M (g : Graph) (x : Field) : Bool := (!(findDef x.ty.name g.doc).isSome || ((findDef x.ty.name g.doc).getD Def.zero).kind != 1) || !outM g.doc ((findDef x.ty.name g.doc).getD Def.zero) (setM x.dirs ([112, 114, 111, 118, 105, 100, 101, 115] : Str))
def c4M (gs : List Graph) (a : Nat) (t : Def) (x : Field) : Bool := (!hasD ([101, 120, 116, 101, 114, 110, 97, 108] : Str) x.dirs && othM a t.name x.name 0 gs) && (hasD ([114, 101, 113, 117, 105, 114, 101, 115] : Str) x.dirs || !(hasD ([115, 104, 97, 114, 101, 97, 98, 108, 101] : Str) x.dirs || isKeyM t.dirs x.name))
def fieldF (gs : List Graph) (a : Nat) (g : Graph) (t : Def) (x : Field) : List Fault :=
  ifM (c1M gs a g t x) ⟨42, placeM g t x⟩ ++ (ifM (c2M gs g t x) ⟨43, placeM g t x⟩ ++ ((if hasD ([112, 114, 111, 118, 105, 100, 101, 115] : Str) x.dirs = true then ifM (c3M g x) ⟨44, placeM g t x⟩ else []) ++ ifM (c4M gs a t x) ⟨40, placeM g t x⟩))
end Go.GB.C23


/-
  F25F: moves: keys and joins of graphs.
-/
namespace Go.GB.C23
open Go.GB Go.GB.C11
set_option linter.unusedSimpArgs false
set_option linter.unusedVariables false
set_option maxRecDepth 100000
set_option maxHeartbeats 4000000
variable {P : Program}

structure KeyO where
  ty : Str
  graph : Int
  fields : List Str
def KeyO.enc (k : KeyO) : List T := [.str k.ty, .int .i64 k.graph, .lst (k.fields.map sE)]
structure Jn where
  ty : Str
  field : Str
  graph : Int
  ext : Bool
  req : List Str
  prov : List Str
def Jn.enc (j : Jn) : List T := [.str j.ty, .str j.field, .int .i64 j.graph, .bool j.ext, .lst (j.req.map sE), .lst (j.prov.map sE)]
structure Acc where
  k : List KeyO
  j : List Jn
  b : List Fault

def keyOf (i : Nat) (t : Def) (k : List Str) : KeyO := ⟨t.name, i, k⟩
def jnOf (i : Nat) (t : Def) (x : Field) : Jn := ⟨t.name, x.name, i, hasD ([101, 120, 116, 101, 114, 110, 97, 108] : Str) x.dirs, setM x.dirs ([114, 101, 113, 117, 105, 114, 101, 115] : Str), setM x.dirs ([112, 114, 111, 118, 105, 100, 101, 115] : Str)⟩
def kDef (i : Nat) (t : Def) : List KeyO := if t.kind = 1 then (keysD t.dirs).map (keyOf i t) else []
def jDef (i : Nat) (t : Def) : List Jn := if t.kind = 1 then t.fields.map (jnOf i t) else []
def fL (gs : List Graph) (i : Nat) (g : Graph) (t : Def) : List Field → List Fault
  | [] => []
  | x :: r => fieldF gs i g t x ++ fL gs i g t r
def bDef (gs : List Graph) (i : Nat) (g : Graph) (t : Def) : List Fault := if t.kind = 1 then keyL g t 0 (keysD t.dirs) ++ fL gs i g t t.fields else []
def kDefs (i : Nat) : List Def → List KeyO
  | [] => []
  | t :: r => kDef i t ++ kDefs i r
def jDefs (i : Nat) : List Def → List Jn
  | [] => []
  | t :: r => jDef i t ++ jDefs i r
def bDefs (gs : List Graph) (i : Nat) (g : Graph) : List Def → List Fault
  | [] => []
  | t :: r => bDef gs i g t ++ bDefs gs i g r
def kAll : Nat → List Graph → List KeyO
  | _, [] => []
  | i, g :: r => kDefs i g.doc ++ kAll (i + 1) r
def jAll : Nat → List Graph → List Jn
  | _, [] => []
  | i, g :: r => jDefs i g.doc ++ jAll (i + 1) r
def bAll (gs : List Graph) : Nat → List Graph → List Fault
  | _, [] => []
  | i, g :: r => bDefs gs i g g.doc ++ bAll gs (i + 1) r
structure JoinsB (gs : List Graph) : Prop where
  l : gs.length ≤ 140737488355328
  g : ∀ g, g ∈ gs → GK g.doc
  n : ∀ g, g ∈ gs → g.name.length ≤ 140737488355328
  k : (kAll 0 gs).length ≤ 549755813888
  j : (jAll 0 gs).length ≤ 549755813888
  b : (bAll gs 0 gs).length ≤ 549755813888

end Go.GB.C23


/-
  F25J: shapes of graphs and supergraphs, as laws are handed them.
-/
namespace Go.GB.C23
open Go.GB Go.GB.C11
set_option linter.unusedSimpArgs false
set_option linter.unusedVariables false

theorem int_sh0 {c : List T} (h : Sh.oks YA [.int .i64] c) : ∃ n : Int, c = [.int .i64 n] := by
  obtain ⟨x, c, rfl, ⟨n, rfl, _⟩, g⟩ := Sh.oks_cons h
  obtain rfl := Sh.oks_nil g
  exact ⟨n, rfl⟩
theorem str_sh1 {c : List T} (h : Sh.oks YA [.str] c) : ∃ s : Str, c = [.str s] ∧ s.length ≤ 140737488355328 := by
  have := reach_le
  obtain ⟨x, c, rfl, ⟨s, rfl, hs⟩, g⟩ := Sh.oks_cons h
  obtain rfl := Sh.oks_nil g
  exact ⟨s, rfl, by omega⟩
end Go.GB.C23


/-
  GbZH: a law's statement with the bound on its arguments' sizes.
-/
namespace Go.GB
open Go.RowKit Go.WideShapes Go.ChangeShapes
theorem handed {H : Type} {enc : TypeId × Value → H} {a : Assume} {C : Checked} {os : Os} {f : FuncId} {fn : Func} {s : ChangeSpec} {conds : List PathCond} {apart fresh handsOn again : Bool}
    (own : ownKnob C.prog.godebug = none) (started : os.Started) (noInit : C.prog.inits.idxOf? f = none) (hfn : C.prog.funcs[f]? = some fn)
    (witness : ∃ (w : World) (tape : Tape) (i : Go.Input), w.os = os ∧ (w.forCall tape i).Shaped C.prog ∧ i.vars = [] ∧ Go.Input.okWide C.prog (w.forCall tape i) .any w.heap.size f i ∧
      s.pre6 enc C.prog fn conds apart (w.forCall tape i).memory i.args ∧ a.holds C.prog (lone (Frame.enter C.prog f i.args .normal) [] (w.forCall tape i)))
    (contract : ∀ (W : World) (base : Nat) (args : Array Value) (ds gs : List (DataW H)) (before : List MemPlace),
      (∀ (j : Nat) t v, fn.params[j]? = some t → args[j]? = some v → Value.okWide C.prog W .any base t v) →
      DataW.Whole enc C.prog fn.params.toList s.vars apart W args.toList ds gs before →
      (DataW.weightsEach C.prog (fn.params.toList ++ s.plain.varTypes C.prog) (ds ++ gs)).all (· ≤ reachBytes) = true →
      Calls C.prog f args W fun e W' => ∃ v, e = .returned v ∧ s.post enc C.prog fn apart fresh handsOn again W args v W') :
    ReturnsInHanded a C os f .any (s.pre6 enc C.prog fn conds apart) (s.post enc C.prog fn apart fresh handsOn again) := by
  have e : (fun (w : World) (args : Array Value) => (s.pre enc C.prog fn conds apart w args ∧ True) ∧ sizedMet enc C.prog fn (OpenSpec.ofChange s) apart w args) = s.pre6 enc C.prog fn conds apart := by
    funext w args; simp only [and_true]; rfl
  rw [← e]
  obtain ⟨w, tape, i, h1, h2, h3, h4, h5, h6⟩ := witness
  exact returnsInHanded_of_change_and (X := fun _ _ => True) (fun _ _ _ _ _ => trivial) own started noInit hfn ⟨w, tape, i, h1, h2, h3, h4, ⟨⟨h5.1, trivial⟩, h5.2⟩, h6⟩ (fun W base args ds gs before a1 a2 _ a4 _ _ => contract W base args ds gs before a1 a2 a4)
end Go.GB

