/-
  YtjbpmfglccfkaaaDoorP6: lemmas of this proof (part 6). No conditions.
-/
import Derived.Test.YtjbpmfglccfkaaaDoorP5
import Derived.Test.YtjbpmfglccfkaaaDoorP4

/-
  F23E: chapter 23's functions: arguments, rules.
-/
namespace Go.GB.C23
open Go.GB Go.GB.C11
set_option linter.unusedSimpArgs false
set_option linter.unusedVariables false
set_option maxRecDepth 100000
set_option maxHeartbeats 4000000
variable {P : Program}

def dV (d : Dir) : V := .agg [.t (.str d.name), .t (.lst (d.args.map Arg.enc))]
theorem argV_ok (H : Pr23 P) (f : FuncId) (d : Dir) (hd : d.args.length ≤ 140737488355328) (a : Str) (hf : f = 56 ∨ f = 57) : FnOk P f [dV d, .t (.str a)] ⟨[], 0⟩ { v := .tup [((argF a d.args).getD Val.zero).v, .t (.bool (argF a d.args).isSome)] } := by
  rcases hf with rfl | rfl
  · refine FnOk.run H.i56 H.mixed rfl rfl ?_
    refine fR rfl ?_
    refine lM rfl rfl rfl ?_
    refine fM rfl ?_
    refine rList d.args (fun i (_ : Unit) => { env := [(1, .t (.str a)), (4, .ptr 1 0), (9, .t (.lst (d.args.map Arg.enc))), (10, .t (.int .i64 d.args.length)), (11, .t (.int .i64 i))], s := ⟨[(1, .cells [.t (.int .i64 0), .t (.int .i64 0), .t (.str []), .nils, .nils])], 2⟩ }) (fun r i _ => argF a d.args = argF a r) 2 () rfl rfl rfl rfl rfl ?_ ?_
    · intro _ hinv
      refine fR rfl ?_
      refine Run.condF rfl rfl (by simp) ?_
      refine fR rfl ?_
      have e : argF a d.args = none := by rw [hinv]; rfl
      rw [e]
      refine Run.fin rfl (EndOk.go ?_); exact .tup2 (.agg (.cons (.t rfl) (.cons (.t rfl) (.cons (.t rfl) (.cons (.nil rfl) (.cons (.nil rfl) .nil)))))) (.t rfl)
    · intro i x r _ h1 hi hdr hinv ih
      refine fR rfl ?_
      refine Run.condT rfl rfl (by simp; omega) ?_
      refine fR rfl ?_
      refine Mid.elemMap rfl rfl rfl h1 rfl rfl ?_
      refine fM rfl ?_
      refine Run.cond rfl rfl (fun h => ?_) (fun h => ?_)
      · have h' : x.name = a := by simpa using h
        refine fR rfl ?_
        have e : argF a d.args = some x.val := by rw [hinv]; simp only [argF]; rw [if_pos h']
        rw [e]
        refine Run.fin rfl (EndOk.go ?_); exact .tup2 (.le (.same rfl)) (.t rfl)
      · have h' : ¬ x.name = a := by simpa using h
        refine fR rfl ?_
        refine aL rfl rfl rfl rfl rfl ?_
        refine fM rfl ?_
        exact rWeak 2 rfl (ih () (by rw [hinv]; simp only [argF]; rw [if_neg h'])) rfl rfl rfl
  · refine FnOk.run H.i57 H.mixed rfl rfl ?_
    refine fR rfl ?_
    refine rList d.args (fun i (_ : Unit) => { env := [(1, .t (.str a)), (2, .ptr 0 0), (4, .ptr 1 0), (6, .t (.int .i64 i))], s := ⟨[(0, .cells [.t (.str d.name), .t (.lst (d.args.map Arg.enc))]), (1, .cells [.t (.int .i64 0), .t (.int .i64 0), .t (.str []), .nils, .nils])], 2⟩ }) (fun r i _ => argF a d.args = argF a r) 2 () rfl rfl rfl rfl rfl ?_ ?_
    · intro _ hinv
      refine fR rfl ?_
      refine lM rfl rfl rfl ?_
      refine fM rfl ?_
      refine Run.condF rfl rfl (by simp) ?_
      refine fR rfl ?_
      have e : argF a d.args = none := by rw [hinv]; rfl
      rw [e]
      refine Run.fin rfl (EndOk.go ?_); exact .tup2 (.agg (.cons (.t rfl) (.cons (.t rfl) (.cons (.t rfl) (.cons (.nil rfl) (.cons (.nil rfl) .nil)))))) (.t rfl)
    · intro i x r _ h1 hi hdr hinv ih
      refine fR rfl ?_
      refine lM rfl rfl rfl ?_
      refine fM rfl ?_
      refine Run.condT rfl rfl (by simp; omega) ?_
      refine fR rfl ?_
      refine Mid.elemMap rfl rfl rfl h1 rfl rfl ?_
      refine fM rfl ?_
      refine Run.cond rfl rfl (fun h => ?_) (fun h => ?_)
      · have h' : x.name = a := by simpa using h
        refine fR rfl ?_
        refine Mid.elemMap rfl rfl rfl h1 rfl rfl ?_
        refine fM rfl ?_
        have e : argF a d.args = some x.val := by rw [hinv]; simp only [argF]; rw [if_pos h']
        rw [e]
        refine Run.fin rfl (EndOk.go ?_); exact .tup2 (.le (.same rfl)) (.t rfl)
      · have h' : ¬ x.name = a := by simpa using h
        refine fR rfl ?_
        refine aL rfl rfl rfl rfl rfl ?_
        refine fM rfl ?_
        exact rWeak 2 rfl (ih () (by rw [hinv]; simp only [argF]; rw [if_neg h'])) rfl rfl rfl
theorem hasD_ok (H : Pr23 P) (f : FuncId) (l : List Dir) (hl : l.length ≤ 140737488355328) (n : Str) (hf : f = 25 ∨ f = 19) : FnOk P f [.t (.lst (l.map Dir.enc)), .t (.str n)] ⟨[], 0⟩ { v := .t (.bool (hasD n l)) } := by
  rcases hf with rfl | rfl
  · refine FnOk.run H.i25 H.mixed rfl rfl ?_
    refine fR rfl ?_
    refine lM rfl rfl rfl ?_
    refine fM rfl ?_
    refine rList l (fun i (_ : Unit) => { env := [(1, .t (.str n)), (7, .t (.lst (l.map Dir.enc))), (8, .t (.int .i64 l.length)), (9, .t (.int .i64 i))], s := ⟨[], 0⟩ }) (fun r i _ => hasD n l = hasD n r) 0 () rfl rfl rfl rfl rfl ?_ ?_
    · intro _ hinv
      refine fR rfl ?_
      refine Run.condF rfl rfl (by simp) ?_
      refine fR rfl ?_
      refine Run.fin rfl (EndOk.go ?_); exact .t (by rw [hinv]; rfl)
    · intro i x r _ h1 hi hdr hinv ih
      refine fR rfl ?_
      refine Run.condT rfl rfl (by simp; omega) ?_
      refine fR rfl ?_
      refine Mid.elemMap rfl rfl rfl h1 rfl rfl ?_
      refine fM rfl ?_
      refine Run.cond rfl rfl (fun h => ?_) (fun h => ?_)
      · refine fR rfl ?_
        refine Run.fin rfl (EndOk.go ?_); exact .t (by rw [hinv]; unfold hasD; rw [List.any_cons, h]; rfl)
      · refine fR rfl ?_
        refine aL rfl rfl rfl rfl rfl ?_
        refine fM rfl ?_
        exact rWeak 0 rfl (ih () (by rw [hinv]; unfold hasD; rw [List.any_cons, h]; rfl)) rfl rfl rfl
  · refine FnOk.run H.i19 H.mixed rfl rfl ?_
    refine fR rfl ?_
    refine rList l (fun i (_ : Unit) => { env := [(0, .t (.lst (l.map Dir.enc))), (1, .t (.str n)), (5, .t (.int .i64 i))], s := ⟨[], 0⟩ }) (fun r i _ => hasD n l = hasD n r) 0 () rfl rfl rfl rfl rfl ?_ ?_
    · intro _ hinv
      refine fR rfl ?_
      refine lM rfl rfl rfl ?_
      refine fM rfl ?_
      refine Run.condF rfl rfl (by simp) ?_
      refine fR rfl ?_
      refine Run.fin rfl (EndOk.go ?_); exact .t (by rw [hinv]; rfl)
    · intro i x r _ h1 hi hdr hinv ih
      refine fR rfl ?_
      refine lM rfl rfl rfl ?_
      refine fM rfl ?_
      refine Run.condT rfl rfl (by simp; omega) ?_
      refine fR rfl ?_
      refine Mid.elemMap rfl rfl rfl h1 rfl rfl ?_
      refine fM rfl ?_
      refine Run.cond rfl rfl (fun h => ?_) (fun h => ?_)
      · refine fR rfl ?_
        refine Run.fin rfl (EndOk.go ?_); exact .t (by rw [hinv]; unfold hasD; rw [List.any_cons, h]; rfl)
      · refine fR rfl ?_
        refine aL rfl rfl rfl rfl rfl ?_
        refine fM rfl ?_
        exact rWeak 0 rfl (ih () (by rw [hinv]; unfold hasD; rw [List.any_cons, h]; rfl)) rfl rfl rfl

/- rules -/
def fnK : Nat → FuncId
  | 0 => 117
  | 1 => 118
  | 2 => 119
  | 3 => 120
  | _ => 121
def PRule.enc (p : PRule) : List T := [.str p.name, .bool p.may, .fn (fnK p.k)]
def Rule.v (r : Rule) : V := .agg [.t (.int .i64 r.places), .t (.bool r.again), .t (.lst (r.params.map PRule.enc))]
def optP : Option PRule → V
  | some p => .agg [.t (.str p.name), .t (.bool p.may), .t (.fn (fnK p.k))]
  | none => .agg [.t (.str []), .t (.bool false), .t .nilf]
def Rule.zero : Rule := ⟨0, false, []⟩
theorem ruleOf_ok (H : Pr23 P) (n : Str) : FnOk P 92 [.t (.str n)] ⟨[], 0⟩ { v := .tup [((ruleF n).getD Rule.zero).v, .t (.bool (ruleF n).isSome)] } := by
  refine FnOk.run H.i92 H.mixed rfl rfl ?_
  refine fR rfl ?_
  refine Run.cond rfl rfl (fun h0 => ?_) (fun h0 => ?_)
  · have h' : n = ([107, 101, 121] : Str) := by simpa using h0
    subst h'
    refine fR rfl ?_
    rw [show ruleF ([107, 101, 121] : Str) = some ⟨1, true, [⟨([102, 105, 101, 108, 100, 115] : Str), false, 0⟩]⟩ from rfl]
    refine Run.fin rfl (EndOk.go ?_); exact .tup2 (.agg (.cons (.t rfl) (.cons (.t rfl) (.cons (.own rfl) .nil)))) (.t rfl)
  · have n0 : ¬ n = ([107, 101, 121] : Str) := by simpa using h0
    refine fR rfl ?_
    refine Run.cond rfl rfl (fun h1 => ?_) (fun h1 => ?_)
    · have h' : n = ([101, 120, 116, 101, 114, 110, 97, 108] : Str) := by simpa using h1
      subst h'
      refine fR rfl ?_
      rw [show ruleF ([101, 120, 116, 101, 114, 110, 97, 108] : Str) = some ⟨4, false, []⟩ from rfl]
      refine Run.fin rfl (EndOk.go ?_); exact .tup2 (.agg (.cons (.t rfl) (.cons (.t rfl) (.cons (.nil rfl) .nil)))) (.t rfl)
    · have n1 : ¬ n = ([101, 120, 116, 101, 114, 110, 97, 108] : Str) := by simpa using h1
      refine fR rfl ?_
      refine Run.cond rfl rfl (fun h2 => ?_) (fun h2 => ?_)
      · have h' : n = ([115, 104, 97, 114, 101, 97, 98, 108, 101] : Str) := by simpa using h2
        subst h'
        refine fR rfl ?_
        rw [show ruleF ([115, 104, 97, 114, 101, 97, 98, 108, 101] : Str) = some ⟨4, false, []⟩ from rfl]
        refine Run.fin rfl (EndOk.go ?_); exact .tup2 (.agg (.cons (.t rfl) (.cons (.t rfl) (.cons (.nil rfl) .nil)))) (.t rfl)
      · have n2 : ¬ n = ([115, 104, 97, 114, 101, 97, 98, 108, 101] : Str) := by simpa using h2
        refine fR rfl ?_
        refine Run.cond rfl rfl (fun h3 => ?_) (fun h3 => ?_)
        · have h' : n = ([105, 110, 97, 99, 99, 101, 115, 115, 105, 98, 108, 101] : Str) := by simpa using h3
          subst h'
          refine fR rfl ?_
          rw [show ruleF ([105, 110, 97, 99, 99, 101, 115, 115, 105, 98, 108, 101] : Str) = some ⟨4, false, []⟩ from rfl]
          refine Run.fin rfl (EndOk.go ?_); exact .tup2 (.agg (.cons (.t rfl) (.cons (.t rfl) (.cons (.nil rfl) .nil)))) (.t rfl)
        · have n3 : ¬ n = ([105, 110, 97, 99, 99, 101, 115, 115, 105, 98, 108, 101] : Str) := by simpa using h3
          refine fR rfl ?_
          refine Run.cond rfl rfl (fun h4 => ?_) (fun h4 => ?_)
          · have h' : n = ([114, 101, 113, 117, 105, 114, 101, 115] : Str) := by simpa using h4
            subst h'
            refine fR rfl ?_
            rw [show ruleF ([114, 101, 113, 117, 105, 114, 101, 115] : Str) = some ⟨4, false, [⟨([102, 105, 101, 108, 100, 115] : Str), false, 0⟩]⟩ from rfl]
            refine Run.fin rfl (EndOk.go ?_); exact .tup2 (.agg (.cons (.t rfl) (.cons (.t rfl) (.cons (.own rfl) .nil)))) (.t rfl)
          · have n4 : ¬ n = ([114, 101, 113, 117, 105, 114, 101, 115] : Str) := by simpa using h4
            refine fR rfl ?_
            refine Run.cond rfl rfl (fun h5 => ?_) (fun h5 => ?_)
            · have h' : n = ([112, 114, 111, 118, 105, 100, 101, 115] : Str) := by simpa using h5
              subst h'
              refine fR rfl ?_
              rw [show ruleF ([112, 114, 111, 118, 105, 100, 101, 115] : Str) = some ⟨4, false, [⟨([102, 105, 101, 108, 100, 115] : Str), false, 0⟩]⟩ from rfl]
              refine Run.fin rfl (EndOk.go ?_); exact .tup2 (.agg (.cons (.t rfl) (.cons (.t rfl) (.cons (.own rfl) .nil)))) (.t rfl)
            · have n5 : ¬ n = ([112, 114, 111, 118, 105, 100, 101, 115] : Str) := by simpa using h5
              refine fR rfl ?_
              refine Run.cond rfl rfl (fun h6 => ?_) (fun h6 => ?_)
              · have h' : n = ([116, 97, 103] : Str) := by simpa using h6
                subst h'
                refine fR rfl ?_
                rw [show ruleF ([116, 97, 103] : Str) = some ⟨31, true, [⟨([110, 97, 109, 101] : Str), false, 1⟩]⟩ from rfl]
                refine Run.fin rfl (EndOk.go ?_); exact .tup2 (.agg (.cons (.t rfl) (.cons (.t rfl) (.cons (.own rfl) .nil)))) (.t rfl)
              · have n6 : ¬ n = ([116, 97, 103] : Str) := by simpa using h6
                refine fR rfl ?_
                refine Run.cond rfl rfl (fun h7 => ?_) (fun h7 => ?_)
                · have h' : n = ([97, 117, 116, 104, 101, 110, 116, 105, 99, 97, 116, 101, 100] : Str) := by simpa using h7
                  subst h'
                  refine fR rfl ?_
                  rw [show ruleF ([97, 117, 116, 104, 101, 110, 116, 105, 99, 97, 116, 101, 100] : Str) = some ⟨13, false, []⟩ from rfl]
                  refine Run.fin rfl (EndOk.go ?_); exact .tup2 (.agg (.cons (.t rfl) (.cons (.t rfl) (.cons (.nil rfl) .nil)))) (.t rfl)
                · have n7 : ¬ n = ([97, 117, 116, 104, 101, 110, 116, 105, 99, 97, 116, 101, 100] : Str) := by simpa using h7
                  refine fR rfl ?_
                  refine Run.cond rfl rfl (fun h8 => ?_) (fun h8 => ?_)
                  · have h' : n = ([115, 99, 111, 112, 101, 115] : Str) := by simpa using h8
                    subst h'
                    refine fR rfl ?_
                    rw [show ruleF ([115, 99, 111, 112, 101, 115] : Str) = some ⟨13, false, [⟨([97, 108, 108] : Str), false, 2⟩]⟩ from rfl]
                    refine Run.fin rfl (EndOk.go ?_); exact .tup2 (.agg (.cons (.t rfl) (.cons (.t rfl) (.cons (.own rfl) .nil)))) (.t rfl)
                  · have n8 : ¬ n = ([115, 99, 111, 112, 101, 115] : Str) := by simpa using h8
                    refine fR rfl ?_
                    refine Run.cond rfl rfl (fun h9 => ?_) (fun h9 => ?_)
                    · have h' : n = ([99, 111, 115, 116] : Str) := by simpa using h9
                      subst h'
                      refine fR rfl ?_
                      rw [show ruleF ([99, 111, 115, 116] : Str) = some ⟨12, false, [⟨([119, 101, 105, 103, 104, 116] : Str), false, 3⟩]⟩ from rfl]
                      refine Run.fin rfl (EndOk.go ?_); exact .tup2 (.agg (.cons (.t rfl) (.cons (.t rfl) (.cons (.own rfl) .nil)))) (.t rfl)
                    · have n9 : ¬ n = ([99, 111, 115, 116] : Str) := by simpa using h9
                      refine fR rfl ?_
                      refine Run.cond rfl rfl (fun h10 => ?_) (fun h10 => ?_)
                      · have h' : n = ([108, 105, 115, 116, 83, 105, 122, 101] : Str) := by simpa using h10
                        subst h'
                        refine fR rfl ?_
                        rw [show ruleF ([108, 105, 115, 116, 83, 105, 122, 101] : Str) = some ⟨12, false, [⟨([97, 115, 115, 117, 109, 101, 100] : Str), false, 3⟩]⟩ from rfl]
                        refine Run.fin rfl (EndOk.go ?_); exact .tup2 (.agg (.cons (.t rfl) (.cons (.t rfl) (.cons (.own rfl) .nil)))) (.t rfl)
                      · have n10 : ¬ n = ([108, 105, 115, 116, 83, 105, 122, 101] : Str) := by simpa using h10
                        refine fR rfl ?_
                        refine Run.cond rfl rfl (fun h11 => ?_) (fun h11 => ?_)
                        · have h' : n = ([99, 97, 99, 104, 101, 67, 111, 110, 116, 114, 111, 108] : Str) := by simpa using h11
                          subst h'
                          refine fR rfl ?_
                          rw [show ruleF ([99, 97, 99, 104, 101, 67, 111, 110, 116, 114, 111, 108] : Str) = some ⟨13, false, [⟨([109, 97, 120, 65, 103, 101] : Str), false, 3⟩, ⟨([112, 114, 105, 118, 97, 116, 101] : Str), true, 4⟩]⟩ from rfl]
                          refine Run.fin rfl (EndOk.go ?_); exact .tup2 (.agg (.cons (.t rfl) (.cons (.t rfl) (.cons (.own rfl) .nil)))) (.t rfl)
                        · have n11 : ¬ n = ([99, 97, 99, 104, 101, 67, 111, 110, 116, 114, 111, 108] : Str) := by simpa using h11
                          refine fR rfl ?_
                          refine Run.cond rfl rfl (fun h12 => ?_) (fun h12 => ?_)
                          · have h' : n = ([100, 101, 112, 114, 101, 99, 97, 116, 101, 100] : Str) := by simpa using h12
                            subst h'
                            refine fR rfl ?_
                            rw [show ruleF ([100, 101, 112, 114, 101, 99, 97, 116, 101, 100] : Str) = some ⟨28, false, [⟨([114, 101, 97, 115, 111, 110] : Str), true, 1⟩]⟩ from rfl]
                            refine Run.fin rfl (EndOk.go ?_); exact .tup2 (.agg (.cons (.t rfl) (.cons (.t rfl) (.cons (.own rfl) .nil)))) (.t rfl)
                          · have n12 : ¬ n = ([100, 101, 112, 114, 101, 99, 97, 116, 101, 100] : Str) := by simpa using h12
                            refine fR rfl ?_
                            have e : ruleF n = none := by
                              unfold ruleF
                              rw [if_neg n0, if_neg n1, if_neg n2, if_neg n3, if_neg n4, if_neg n5, if_neg n6, if_neg n7, if_neg n8, if_neg n9, if_neg n10, if_neg n11, if_neg n12]
                            rw [e]
                            refine Run.fin rfl (EndOk.go ?_); exact .tup2 (.agg (.cons (.t rfl) (.cons (.t rfl) (.cons (.nil rfl) .nil)))) (.t rfl)
theorem param_ok (H : Pr23 P) (r : Rule) (hr : r.params.length ≤ 1000) (a : Str) : FnOk P 93 [r.v, .t (.str a)] ⟨[], 0⟩ { v := .tup [optP (findP a r.params), .t (.bool (findP a r.params).isSome)] } := by
  refine FnOk.run H.i93 H.mixed rfl rfl ?_
  refine fR rfl ?_
  refine lM rfl rfl rfl ?_
  refine fM rfl ?_
  refine rList r.params (fun i (_ : Unit) => { env := [(1, .t (.str a)), (4, .ptr 1 0), (9, .t (.lst (r.params.map PRule.enc))), (10, .t (.int .i64 r.params.length)), (11, .t (.int .i64 i))], s := ⟨[(1, .cells [.t (.str []), .t (.bool false), .t .nilf])], 2⟩ }) (fun q i _ => findP a r.params = findP a q) 2 () rfl rfl rfl rfl rfl ?_ ?_
  · intro _ hinv
    refine fR rfl ?_
    refine Run.condF rfl rfl (by simp) ?_
    refine fR rfl ?_
    have e : findP a r.params = none := by rw [hinv]; rfl
    rw [e]
    refine Run.fin rfl (EndOk.go ?_); exact .tup2 (.agg (.cons (.t rfl) (.cons (.t rfl) (.cons (.t rfl) .nil)))) (.t rfl)
  · intro i x q _ h1 hi hdr hinv ih
    refine fR rfl ?_
    refine Run.condT rfl rfl (by simp; omega) ?_
    refine fR rfl ?_
    refine Mid.elemMap rfl rfl rfl h1 rfl rfl ?_
    refine fM rfl ?_
    refine Run.cond rfl rfl (fun h => ?_) (fun h => ?_)
    · have h' : x.name = a := by simpa using h
      refine fR rfl ?_
      have e : findP a r.params = some x := by rw [hinv]; simp only [findP]; rw [if_pos h']
      rw [e]
      refine Run.fin rfl (EndOk.go ?_); exact .tup2 (.le (.same rfl)) (.t rfl)
    · have h' : ¬ x.name = a := by simpa using h
      refine fR rfl ?_
      refine aL rfl rfl rfl rfl rfl ?_
      refine fM rfl ?_
      exact rWeak 2 rfl (ih () (by rw [hinv]; simp only [findP]; rw [if_neg h'])) rfl rfl rfl

/- values that fit -/
theorem fitsK_ok (H : Pr23 P) (k : Nat) (v : Val) (hv : v.Ok) (ht : v.text.length ≤ 1048576) : FnOk P (fnK k) [v.v] ⟨[], 0⟩ { v := .t (.bool (fitsK k v)) } := by
  have hil := hv.il
  have htc : v.text.count 32 ≤ v.text.length := List.count_le_length
  match k with
  | 0 =>
    refine FnOk.run H.i117 H.mixed rfl rfl ?_
    refine fR rfl ?_
    refine Mid.call (dSet_ok H v.text (by omega) (by omega)) rfl rfl rfl rfl ?_
    refine fM rfl ?_
    refine Run.fin rfl (EndOk.go ?_); exact .t rfl
  | 1 =>
    refine FnOk.run H.i118 H.mixed rfl rfl ?_
    refine fR rfl ?_
    refine Run.fin rfl (EndOk.go ?_); exact .t rfl
  | 2 =>
    refine FnOk.run H.i119 H.mixed rfl rfl ?_
    refine fR rfl ?_
    refine Run.cond rfl rfl (fun h => ?_) (fun h => ?_)
    · refine fR rfl ?_
      refine Run.fin rfl (EndOk.go ?_); exact .t (by
        have : (v.kind == 5) = false := by simpa using h
        show T.bool false = T.bool (v.kind == 5 && v.items.all fun x => x.kind == 3)
        rw [this]; rfl)
    · have hk : (v.kind == 5) = true := by simpa using h
      refine fR rfl ?_
      refine lM rfl rfl rfl ?_
      refine fM rfl ?_
      refine rList v.items (fun i (_ : Unit) => { env := [(9, .t (.lst (v.items.map Val.enc))), (10, .t (.int .i64 v.items.length)), (11, .t (.int .i64 i))], s := ⟨[], 0⟩ }) (fun r i _ => (v.items.all fun x => x.kind == 3) = r.all fun x => x.kind == 3) 0 () rfl rfl rfl rfl rfl ?_ ?_
      · intro _ hinv
        refine fR rfl ?_
        refine Run.condF rfl rfl (by simp) ?_
        refine fR rfl ?_
        refine Run.fin rfl (EndOk.go ?_); exact .t (by
          show T.bool true = T.bool (v.kind == 5 && v.items.all fun x => x.kind == 3)
          rw [hk, hinv]; rfl)
      · intro i x r _ h1 hi hdr hinv ih
        refine fR rfl ?_
        refine Run.condT rfl rfl (by simp; omega) ?_
        refine fR rfl ?_
        refine Mid.elemMapC ((Val.enc_eq x)) rfl rfl rfl h1 rfl rfl ?_
        refine fM rfl ?_
        refine Run.cond rfl rfl (fun hc => ?_) (fun hc => ?_)
        · have hc' : (x.kind == 3) = false := by simpa using hc
          refine fR rfl ?_
          refine Run.fin rfl (EndOk.go ?_); exact .t (by
            show T.bool false = T.bool (v.kind == 5 && v.items.all fun x => x.kind == 3)
            rw [hk, hinv, List.all_cons, hc']; rfl)
        · have hc' : (x.kind == 3) = true := by simpa using hc
          refine fR rfl ?_
          refine aL rfl rfl rfl rfl rfl ?_
          refine fM rfl ?_
          exact rWeak 0 rfl (ih () (by rw [hinv, List.all_cons, hc']; rfl)) rfl rfl rfl
  | 3 =>
    refine FnOk.run H.i120 H.mixed rfl rfl ?_
    refine fR rfl ?_
    refine Run.fin rfl (EndOk.go ?_); exact .t rfl
  | n + 4 =>
    refine FnOk.run H.i121 H.mixed rfl rfl ?_
    refine fR rfl ?_
    refine Run.fin rfl (EndOk.go ?_); exact .t rfl
end Go.GB.C23


/-
  F23F: chapter 23's functions: the reference's arguments and places.
-/
namespace Go.GB.C23
open Go.GB Go.GB.C11
set_option linter.unusedSimpArgs false
set_option linter.unusedVariables false
set_option maxRecDepth 100000
set_option maxHeartbeats 4000000
variable {P : Program}

def glue (p : Str) : List Str → List Str
  | [] => [p]
  | h :: t => (p ++ h) :: t
structure SrOk (s : Str) (out : List Str) (fr i : Nat) : Prop where
  le : i ≤ s.length + 1
  fl : fr ≤ i
  ol : out.length ≤ i
  go : i ≤ s.length → splS s = out ++ glue ((s.take i).drop fr) (splS (s.drop i))
  en : i = s.length + 1 → splS s = out
end Go.GB.C23


/-
  F23G: chapter 23's functions: the reference's sets, values that fit, arguments.
-/
namespace Go.GB.C23
open Go.GB Go.GB.C11
set_option linter.unusedSimpArgs false
set_option linter.unusedVariables false
set_option maxRecDepth 100000
set_option maxHeartbeats 4000000
variable {P : Program}

/-- directives whose texts are not long -/
structure DOk (d : Dir) : Prop where
  l : d.args.length ≤ 140737488355328
  nm : d.name.length ≤ 140737488355328
  an : ∀ a, a ∈ d.args → a.name.length ≤ 140737488355328 ∧ a.val.Ok ∧ a.val.text.length ≤ 1048576
end Go.GB.C23


/-
  F23H: chapter 23's functions: judging uses of directives.
-/
namespace Go.GB.C23
open Go.GB Go.GB.C11
set_option linter.unusedSimpArgs false
set_option linter.unusedVariables false
set_option maxRecDepth 100000
set_option maxHeartbeats 4000000
variable {P : Program}

theorem rule_len {n : Str} {r : Rule} (h : ruleF n = some r) : r.params.length ≤ 1000 := by
  rcases ruleF_some h with ⟨rfl, rfl⟩ | ⟨rfl, rfl⟩ | ⟨rfl, rfl⟩ | ⟨rfl, rfl⟩ | ⟨rfl, rfl⟩ | ⟨rfl, rfl⟩ | ⟨rfl, rfl⟩ | ⟨rfl, rfl⟩ | ⟨rfl, rfl⟩ | ⟨rfl, rfl⟩ | ⟨rfl, rfl⟩ | ⟨rfl, rfl⟩ | ⟨rfl, rfl⟩ <;> simp
theorem judge_ok (H : Pr23 P) (l : List Dir) (hl : l.length ≤ 140737488355328) (i : Nat) (x : Dir) (hx : l[i]? = some x) (hd : DOk x) (pl : Int) : FnOk P 73 [.t (.lst (l.map Dir.enc)), .t (.int .i64 i), .t (.int .i64 pl)] ⟨[], 0⟩ { v := .t (.int .i64 (judgeF (l.take i) x pl)) } := by
  have hal := hd.l
  have hi := (List.getElem?_eq_some_iff.1 hx).1
  have hR : ∀ R, judgeF (l.take i) x pl = R → FnOk P 73 [.t (.lst (l.map Dir.enc)), .t (.int .i64 i), .t (.int .i64 pl)] ⟨[], 0⟩ { v := .t (.int .i64 R) } := by
    intro R hR
    unfold judgeF at hR
    have hro := ruleOf_ok H x.name
    refine FnOk.run H.i73 H.mixed rfl rfl ?_
    refine fR rfl ?_
    refine Mid.elemMap rfl rfl rfl hx rfl rfl ?_
    refine fM rfl ?_
    cases hr : ruleF x.name with
    | none =>
      rw [hr] at hro hR
      subst hR
      refine Mid.call (hro) rfl rfl rfl rfl ?_
      refine fM rfl ?_
      refine Run.condT rfl rfl rfl ?_
      refine fR rfl ?_
      refine Run.fin rfl (EndOk.go ?_); exact .t rfl
    | some r =>
      have hrl := rule_len hr
      rw [hr] at hro hR
      simp only at hR
      refine Mid.call (hro) rfl rfl rfl rfl ?_
      refine fM rfl ?_
      refine Run.cond rfl rfl (fun h1 => ?_) (fun h1 => ?_)
      · have h1' : atP r.places pl = false := by
          unfold atP
          have h2 : (andI .i64 r.places pl == 0) = true := by simpa using h1
          simp only [bne, h2]; rfl
        rw [if_pos h1'] at hR
        subst hR
        refine fR rfl ?_
        refine Run.fin rfl (EndOk.go ?_); exact .t rfl
      · have h1' : ¬ atP r.places pl = false := by
          unfold atP
          have h2 : (andI .i64 r.places pl == 0) = false := by simpa using h1
          simp only [bne, h2]; simp
        rw [if_neg h1'] at hR
        refine fR rfl ?_
        refine lToG rfl rfl rfl rfl rfl ?_
        refine fM rfl ?_
        refine caG rfl rfl (fun hg => ⟨_, rfl, hasD_ok H 25 (l.take i) (by rw [List.length_take]; omega) x.name (.inl rfl), rfl⟩) rfl rfl ?_
        refine fM rfl ?_
        refine Run.cond rfl rfl (fun h2 => ?_) (fun h2 => ?_)
        · have h2' : (!r.again && hasD x.name (l.take i)) = true := h2
          rw [if_pos h2'] at hR
          subst hR
          refine fR rfl ?_
          refine Run.fin rfl (EndOk.go ?_); exact .t rfl
        · have h2' : ¬ (!r.again && hasD x.name (l.take i)) = true := by rw [show (!r.again && hasD x.name (l.take i)) = false from h2]; simp
          rw [if_neg h2'] at hR
          unfold argsE at hR
          refine fR rfl ?_
          refine lM rfl rfl rfl ?_
          refine fM rfl ?_
          refine rList x.args (fun k (_ : Unit) => { env := [(7, .ptr 0 0), (8, .ptr 1 0), (57, .t (.lst (x.args.map Arg.enc))), (58, .t (.int .i64 x.args.length)), (59, .t (.int .i64 k))], s := ⟨[(0, .cells [.t (.str x.name), .t (.lst (x.args.map Arg.enc))]), (1, .cells [.t (.int .i64 r.places), .t (.bool r.again), .t (.lst (r.params.map PRule.enc))])], 2⟩ }) (fun q k _ => badA r.params [] x.args = badA r.params (x.args.take k) q) 2 () rfl rfl rfl rfl rfl ?_ ?_
          · intro _ hinv
            have hb : badA r.params [] x.args = false := by rw [hinv]; rfl
            rw [if_neg (by rw [hb]; simp)] at hR
            refine fR rfl ?_
            refine Run.condF rfl rfl (by simp) ?_
            refine fR rfl ?_
            refine lM rfl rfl rfl ?_
            refine fM rfl ?_
            refine rList r.params (fun k (_ : Unit) => { env := [(7, .ptr 0 0), (8, .ptr 1 0), (87, .t (.lst (r.params.map PRule.enc))), (88, .t (.int .i64 r.params.length)), (89, .t (.int .i64 k))], s := ⟨[(0, .cells [.t (.str x.name), .t (.lst (x.args.map Arg.enc))]), (1, .cells [.t (.int .i64 r.places), .t (.bool r.again), .t (.lst (r.params.map PRule.enc))])], 2⟩ }) (fun q k _ => missA r.params x.args = q.any fun p => !(argF p.name x.args).isSome && !p.may) 2 () rfl rfl rfl rfl rfl ?_ ?_
            · intro _ hm
              rw [if_neg (by rw [hm]; simp)] at hR
              refine fR rfl ?_
              refine Run.condF rfl rfl (by simp) ?_
              refine fR rfl ?_
              refine lM rfl rfl rfl ?_
              refine fM rfl ?_
              refine rList x.args (fun k (_ : Unit) => { env := [(8, .ptr 1 0), (109, .t (.lst (x.args.map Arg.enc))), (110, .t (.int .i64 x.args.length)), (111, .t (.int .i64 k))], s := ⟨[(1, .cells [.t (.int .i64 r.places), .t (.bool r.again), .t (.lst (r.params.map PRule.enc))])], 2⟩ }) (fun q k _ => unfitA r.params x.args = unfitA r.params q) 2 () rfl rfl rfl rfl rfl ?_ ?_
              · intro _ hu
                rw [if_neg (by rw [hu]; simp [unfitA])] at hR
                subst hR
                refine fR rfl ?_
                refine Run.condF rfl rfl (by simp) ?_
                refine fR rfl ?_
                refine Run.fin rfl (EndOk.go ?_); exact .t rfl
              · intro k y q _ g1 gi gd hu ih
                have hy := hd.an y (List.mem_of_getElem? g1)
                have hfd := bad_found hb y (List.mem_of_getElem? g1)
                have hpo := param_ok H r hrl y.name
                cases hf : findP y.name r.params with
                | none => rw [hf] at hfd; cases hfd
                | some p =>
                  rw [hf] at hpo
                  refine fR rfl ?_
                  refine Run.condT rfl rfl (by simp; omega) ?_
                  refine fR rfl ?_
                  refine Mid.elemMap rfl rfl rfl g1 rfl rfl ?_
                  refine fM rfl ?_
                  refine Mid.call (hpo) rfl rfl rfl rfl ?_
                  refine fM rfl ?_
                  refine Mid.callv0 rfl (fitsK_ok H p.k y.val hy.2.1 hy.2.2) rfl rfl rfl rfl ?_
                  refine fM rfl ?_
                  refine Run.cond rfl rfl (fun hc => ?_) (fun hc => ?_)
                  · rw [if_pos (by rw [hu, unfitA, List.any_cons, hf]; show ((!fitsK p.k y.val) || _) = true; rw [show (!fitsK p.k y.val) = true from hc]; rfl)] at hR
                    subst hR
                    refine fR rfl ?_
                    refine Run.fin rfl (EndOk.go ?_); exact .t rfl
                  · refine fR rfl ?_
                    refine aL rfl rfl rfl rfl rfl ?_
                    refine fM rfl ?_
                    exact rWeak 2 rfl (ih () (by rw [hu, unfitA, List.any_cons, hf]; show ((!fitsK p.k y.val) || _) = _; rw [show (!fitsK p.k y.val) = false from hc]; rfl)) rfl rfl rfl
            · intro k p q _ g1 gi gd hm ih
              refine fR rfl ?_
              refine Run.condT rfl rfl (by simp; omega) ?_
              refine fR rfl ?_
              refine Mid.elemMap rfl rfl rfl g1 rfl rfl ?_
              refine fM rfl ?_
              refine Mid.call (argV_ok H 56 x hal p.name (.inl rfl)) rfl rfl rfl rfl ?_
              refine fM rfl ?_
              refine Run.cond rfl rfl (fun hc => ?_) (fun hc => ?_)
              · rw [if_pos (by rw [hm, List.any_cons, show (!(argF p.name x.args).isSome && !p.may) = true from hc]; rfl)] at hR
                subst hR
                refine fR rfl ?_
                refine Run.fin rfl (EndOk.go ?_); exact .t rfl
              · refine fR rfl ?_
                refine aL rfl rfl rfl rfl rfl ?_
                refine fM rfl ?_
                exact rWeak 2 rfl (ih () (by rw [hm, List.any_cons, show (!(argF p.name x.args).isSome && !p.may) = false from hc]; rfl)) rfl rfl rfl
          · intro k y q _ g1 gi gd hinv ih
            have hy := hd.an y (List.mem_of_getElem? g1)
            have htk : x.args.take k ++ [y] = x.args.take (k + 1) := by rw [List.take_add_one, g1]; rfl
            have hav := argV_ok H 56 ⟨[], x.args.take k⟩ (by show (x.args.take k).length ≤ _; rw [List.length_take]; omega) y.name (.inl rfl)
            have hpo := param_ok H r hrl y.name
            refine fR rfl ?_
            refine Run.condT rfl rfl (by simp; omega) ?_
            refine fR rfl ?_
            refine Mid.elemMap rfl rfl rfl g1 rfl rfl ?_
            refine fM rfl ?_
            cases hf : findP y.name r.params with
            | none =>
              rw [hf] at hpo
              rw [if_pos (by rw [hinv, badA, hf]; rfl)] at hR
              subst hR
              refine Mid.call (hpo) rfl rfl rfl rfl ?_
              refine fM rfl ?_
              refine Run.condT rfl rfl rfl ?_
              refine fR rfl ?_
              refine Run.fin rfl (EndOk.go ?_); exact .t rfl
            | some p =>
              rw [hf] at hpo
              refine Mid.call (hpo) rfl rfl rfl rfl ?_
              refine fM rfl ?_
              refine Run.condF rfl rfl rfl ?_
              refine fR rfl ?_
              refine lTo rfl rfl rfl rfl ?_
              refine fM rfl ?_
              refine Mid.call (hav) rfl rfl rfl rfl ?_
              refine fM rfl ?_
              refine Run.cond rfl rfl (fun hc => ?_) (fun hc => ?_)
              · rw [if_pos (by rw [hinv, badA, hf, show (argF y.name (x.args.take k)).isSome = true from hc]; rfl)] at hR
                subst hR
                refine fR rfl ?_
                refine Run.fin rfl (EndOk.go ?_); exact .t rfl
              · refine fR rfl ?_
                refine aL rfl rfl rfl rfl rfl ?_
                refine fM rfl ?_
                exact rWeak 2 rfl (ih () (by rw [hinv, badA, hf, show (argF y.name (x.args.take k)).isSome = false from hc, ← htk]; rfl)) rfl rfl rfl
  exact hR _ rfl
/-- lists of uses whose texts are not long -/
structure DsOk (l : List Dir) : Prop where
  len : l.length ≤ 2199023255552
  all : ∀ d, d ∈ l → DOk d
theorem uses_ok (H : Pr23 P) (out : List Fault) (l : List Dir) (hd : DsOk l) (pl : Int) (at_ : Str) (hl : out.length + l.length ≤ 4398046511104) : FnOk P 52 [.own 0 2 (out.map Fault.enc), .t (.lst (l.map Dir.enc)), .t (.int .i64 pl), .t (.str at_)] ⟨[(0, .arr out.length)], 1⟩ { v := .own 0 2 ((out ++ usesF pl at_ [] l).map Fault.enc), ob := [(0, .arr (out ++ usesF pl at_ [] l).length)], rd := true } := by
  have hll := hd.len
  have hR : ∀ R, out ++ usesF pl at_ [] l = R → FnOk P 52 [.own 0 2 (out.map Fault.enc), .t (.lst (l.map Dir.enc)), .t (.int .i64 pl), .t (.str at_)] ⟨[(0, .arr out.length)], 1⟩ { v := .own 0 2 (R.map Fault.enc), ob := [(0, .arr R.length)], rd := true } := by
    intro R hR
    refine FnOk.run H.i52 H.mixed rfl rfl ?_
    refine fR rfl ?_
    refine lM rfl rfl rfl ?_
    refine fM rfl ?_
    refine rList l (fun i (B : List Fault) => { env := [(0, .own 0 2 (B.map Fault.enc)), (1, .t (.lst (l.map Dir.enc))), (2, .t (.int .i64 pl)), (3, .t (.str at_)), (12, .t (.int .i64 l.length)), (13, .t (.int .i64 i))], s := ⟨[(0, .arr B.length)], 1⟩ }) (fun r i B => B.length ≤ out.length + i ∧ B ++ usesF pl at_ (l.take i) r = R) 1 out rfl ⟨by simp, hR⟩ rfl rfl rfl ?_ ?_
    · rintro B ⟨_, hB⟩
      have hB' : B = R := by rw [← hB]; simp [usesF]
      subst hB'
      refine fR rfl ?_
      refine Run.condF rfl rfl (by simp) ?_
      refine fR rfl ?_
      refine Run.fin rfl (EndOk.chg rfl rfl ?_ ?_)
      · exact .le (.same rfl)
      · exact (by repeat' (first | exact trivial | exact LeX.t | exact LeX.top | exact LeX.nilOwn (Nat.le_of_ble_eq_true rfl) (Nat.le_of_ble_eq_true rfl) | exact LeX.ownT | exact LeX.nilT | exact LeX.same rfl | exact LeX.tEq (by simp) | exact LeX.ownEq (by simp) (Nat.le_of_ble_eq_true rfl) | exact LeX.tEq (by congr 1 <;> omega) | exact Or.inr ⟨Nat.le_of_ble_eq_true rfl, Nat.le_of_ble_eq_true rfl, rfl⟩ | refine Or.inl ⟨Nat.le_of_ble_eq_true rfl, _, rfl, ?_⟩ | refine LeO.cells ?_ | exact LeO.arr rfl | exact LeO.arr (by simp) | exact LeO.mE (by first | rfl | simp) (by first | exact Or.inl rfl | exact Or.inr rfl) | exact LeO.cE (by first | rfl | simp) | exact LeXs.cE (by first | rfl | simp) | refine LeO.map (by first | rfl | simp) ?_ (by first | exact Or.inl rfl | exact Or.inr rfl) | exact LeO.iter (by first | rfl | simp) (Nat.le_of_ble_eq_true rfl) | refine LeXs.cons ?_ ?_ | exact LeXs.nil | refine And.intro ?_ ?_))
    · rintro i x r B h1 hi hdr ⟨hBl, hB⟩ ih
      have hBl' : B.length ≤ out.length + i := hBl
      have hx := hd.all x (List.mem_of_getElem? h1)
      have htk : l.take i ++ [x] = l.take (i + 1) := by rw [List.take_add_one, h1]; rfl
      rw [usesF, htk] at hB
      refine fR rfl ?_
      refine Run.condT rfl rfl (by simp; omega) ?_
      refine fR rfl ?_
      refine Mid.call (judge_ok H l (by omega) i x h1 hx pl) rfl rfl rfl rfl ?_
      refine fM rfl ?_
      refine Run.cond rfl rfl (fun hc => ?_) (fun hc => ?_)
      · have hc' : ¬ judgeF (l.take i) x pl = 0 := by simpa using hc
        rw [if_neg hc'] at hB
        refine fR rfl ?_
        refine apM Fault.enc B [(⟨judgeF (l.take i) x pl, at_⟩ : Fault)] rfl rfl rfl rfl rfl ?_ (h1 := by first | omega | (simp; omega) | (simp; done)) (h2 := by first | omega | (simp; omega) | (simp; done))
        refine fM rfl ?_
        refine aL rfl rfl rfl rfl rfl ?_
        refine fM rfl ?_
        exact rWeak 1 rfl (ih (B ++ [⟨judgeF (l.take i) x pl, at_⟩]) ⟨by simp; omega, by rw [List.append_assoc]; exact hB⟩) rfl rfl rfl
      · have hc' : judgeF (l.take i) x pl = 0 := by simpa using hc
        rw [if_pos hc', List.nil_append] at hB
        refine fR rfl ?_
        refine aL rfl rfl rfl rfl rfl ?_
        refine fM rfl ?_
        exact rWeak 1 rfl (ih B ⟨by omega, hB⟩) rfl rfl rfl
  exact hR _ rfl
end Go.GB.C23


/-
  F23I: chapter 23's functions: violations of documents, both ways.
-/
namespace Go.GB.C23
open Go.GB Go.GB.C11
set_option linter.unusedSimpArgs false
set_option linter.unusedVariables false
set_option maxRecDepth 100000
set_option maxHeartbeats 4000000
variable {P : Program}
/-- documents whose texts are not long -/
structure InpD (a : Input) : Prop where
  nm : a.name.length ≤ 140737488355328
  d : DsOk a.dirs
structure FldD (f : Field) : Prop where
  nm : f.name.length ≤ 140737488355328
  d : DsOk f.dirs
  al : f.args.length ≤ 140737488355328
  a : ∀ x, x ∈ f.args → InpD x
structure MemD (m : Member) : Prop where
  nm : m.name.length ≤ 140737488355328
  d : DsOk m.dirs
structure DefD (t : Def) : Prop where
  nm : t.name.length ≤ 140737488355328
  d : DsOk t.dirs
  fl : t.fields.length ≤ 549755813888
  f : ∀ x, x ∈ t.fields → FldD x
  ml : t.members.length ≤ 549755813888
  m : ∀ x, x ∈ t.members → MemD x
  il : t.inputs.length ≤ 549755813888
  i : ∀ x, x ∈ t.inputs → InpD x
def plK (k : Int) : Int := if k = 2 then 8 else 4
theorem partL1 {t : Def} (h : t.kind = 1 ∨ t.kind = 2) : partL t = fldL t.name (plK t.kind) t.fields := by
  unfold partL plK
  rcases h with h | h <;> simp [h]
theorem partL3 {t : Def} (h : t.kind = 3) : partL t = memL t.name 0 t.members := by unfold partL; simp [h]
theorem partL4 {t : Def} (h : t.kind = 4) : partL t = memL t.name 16 t.members := by unfold partL; simp [h]
theorem partL5 {t : Def} (h : t.kind = 5) : partL t = inpL t.name t.inputs := by unfold partL; simp [h]
theorem partL0 {t : Def} (h1 : ¬ t.kind = 1) (h2 : ¬ t.kind = 2) (h3 : ¬ t.kind = 3) (h4 : ¬ t.kind = 4) (h5 : ¬ t.kind = 5) : partL t = [] := by unfold partL; simp [h1, h2, h3, h4, h5]
end Go.GB.C23


/-
  F23K: chapter 23's functions: the directives without those of subgraphs; values found.
-/
namespace Go.GB.C23
open Go.GB Go.GB.C11
set_option linter.unusedSimpArgs false
set_option linter.unusedVariables false
set_option maxRecDepth 100000
set_option maxHeartbeats 4000000
variable {P : Program}
theorem pubF_cons (x : Dir) (r : List Dir) : pubF (x :: r) = if subD x.name = true then pubF r else x :: pubF r := by
  unfold pubF; rw [List.filter_cons]; cases subD x.name <;> rfl
theorem public_ok (H : Pr23 P) (l : List Dir) (hl : l.length ≤ 2199023255552) : FnOk P 20 [.t (.lst (l.map Dir.enc))] ⟨[], 0⟩ { v := .t (.lst ((pubF l).map Dir.enc)) } := by
  have hR : ∀ R, pubF l = R → FnOk P 20 [.t (.lst (l.map Dir.enc))] ⟨[], 0⟩ { v := .t (.lst (R.map Dir.enc)) } := by
    intro R hR
    refine FnOk.run H.i20 H.mixed rfl rfl ?_
    refine fR rfl ?_
    refine lM rfl rfl rfl ?_
    refine fM rfl ?_
    refine rList l (fun i (B : List Dir) => { env := [(3, .own 0 2 (B.map Dir.enc)), (6, .t (.lst (l.map Dir.enc))), (7, .t (.int .i64 l.length)), (8, .t (.int .i64 i))], s := ⟨[(0, .arr B.length)], 1⟩ }) (fun r i B => B.length ≤ i ∧ B ++ pubF r = R) 0 [] rfl ⟨by simp, hR⟩ rfl rfl rfl ?_ ?_
    · rintro B ⟨_, hB⟩
      have hB' : B = R := by rw [← hB]; simp [pubF]
      subst hB'
      refine fR rfl ?_
      refine Run.condF rfl rfl (by simp) ?_
      refine fR rfl ?_
      refine Run.fin rfl (EndOk.go ?_); exact .own rfl
    · rintro i x r B h1 hi hdr ⟨hBl, hB⟩ ih
      have hBl' : B.length ≤ i := hBl
      refine fR rfl ?_
      refine Run.condT rfl rfl (by simp; omega) ?_
      refine fR rfl ?_
      refine Mid.elemMap rfl rfl rfl h1 rfl rfl ?_
      refine fM rfl ?_
      by_cases e0 : x.name = ([107, 101, 121] : Str)
      · refine Run.condT rfl rfl (by simp [e0]) ?_
        refine Run.condT rfl rfl (by simp [e0]) ?_
        refine fR rfl ?_
        refine aL rfl rfl rfl rfl rfl ?_
        refine fM rfl ?_
        exact rWeak 1 rfl (ih B ⟨by omega, by rw [← hB, pubF_cons, if_pos (by unfold subD; simp [e0])]⟩) rfl rfl rfl
      · refine Run.condF rfl rfl (by simp [e0]) ?_
        refine fR rfl ?_
        by_cases e1 : x.name = ([101, 120, 116, 101, 114, 110, 97, 108] : Str)
        · refine Run.condT rfl rfl (by simp [e1]) ?_
          refine Run.condT rfl rfl (by simp [e1]) ?_
          refine fR rfl ?_
          refine aL rfl rfl rfl rfl rfl ?_
          refine fM rfl ?_
          exact rWeak 1 rfl (ih B ⟨by omega, by rw [← hB, pubF_cons, if_pos (by unfold subD; simp [e1])]⟩) rfl rfl rfl
        · refine Run.condF rfl rfl (by simp [e1]) ?_
          refine fR rfl ?_
          by_cases e2 : x.name = ([115, 104, 97, 114, 101, 97, 98, 108, 101] : Str)
          · refine Run.condT rfl rfl (by simp [e2]) ?_
            refine Run.condT rfl rfl (by simp [e2]) ?_
            refine fR rfl ?_
            refine aL rfl rfl rfl rfl rfl ?_
            refine fM rfl ?_
            exact rWeak 1 rfl (ih B ⟨by omega, by rw [← hB, pubF_cons, if_pos (by unfold subD; simp [e2])]⟩) rfl rfl rfl
          · refine Run.condF rfl rfl (by simp [e2]) ?_
            refine fR rfl ?_
            by_cases e3 : x.name = ([114, 101, 113, 117, 105, 114, 101, 115] : Str)
            · refine Run.condT rfl rfl (by simp [e3]) ?_
              refine Run.condT rfl rfl (by simp [e3]) ?_
              refine fR rfl ?_
              refine aL rfl rfl rfl rfl rfl ?_
              refine fM rfl ?_
              exact rWeak 1 rfl (ih B ⟨by omega, by rw [← hB, pubF_cons, if_pos (by unfold subD; simp [e3])]⟩) rfl rfl rfl
            · refine Run.condF rfl rfl (by simp [e3]) ?_
              refine fR rfl ?_
              by_cases e4 : x.name = ([112, 114, 111, 118, 105, 100, 101, 115] : Str)
              · refine Run.condT rfl rfl (by simp [e4]) ?_
                refine fR rfl ?_
                refine aL rfl rfl rfl rfl rfl ?_
                refine fM rfl ?_
                exact rWeak 1 rfl (ih B ⟨by omega, by rw [← hB, pubF_cons, if_pos (by unfold subD; simp [e4])]⟩) rfl rfl rfl
              · refine Run.condF rfl rfl (by simp [e4]) ?_
                refine fR rfl ?_
                refine apM Dir.enc B [x] rfl rfl rfl rfl rfl ?_ (h1 := by first | omega | (simp; omega) | (simp; done)) (h2 := by first | omega | (simp; omega) | (simp; done))
                refine fM rfl ?_
                refine aL rfl rfl rfl rfl rfl ?_
                refine fM rfl ?_
                exact rWeak 1 rfl (ih (B ++ [x]) ⟨by simp; omega, by rw [← hB, pubF_cons, if_neg (by unfold subD; simp [e0, e1, e2, e3, e4])]; simp⟩) rfl rfl rfl
  exact hR _ rfl
theorem rPublic_ok (H : Pr23 P) (l : List Dir) (hl : l.length ≤ 2199023255552) : FnOk P 21 [.t (.lst (l.map Dir.enc))] ⟨[], 0⟩ { v := .t (.lst ((pubF l).map Dir.enc)) } := by
  have hR : ∀ R, pubF l = R → FnOk P 21 [.t (.lst (l.map Dir.enc))] ⟨[], 0⟩ { v := .t (.lst (R.map Dir.enc)) } := by
    intro R hR
    refine FnOk.run H.i21 H.mixed rfl rfl ?_
    refine fR rfl ?_
    refine rList l (fun i (B : List Dir) => { env := [(0, .t (.lst (l.map Dir.enc))), (3, .own 0 2 (B.map Dir.enc)), (4, .t (.int .i64 i))], s := ⟨[(0, .arr B.length)], 1⟩ }) (fun r i B => B.length ≤ i ∧ B ++ pubF r = R) 0 [] rfl ⟨by simp, hR⟩ rfl rfl rfl ?_ ?_
    · rintro B ⟨_, hB⟩
      have hB' : B = R := by rw [← hB]; simp [pubF]
      subst hB'
      refine fR rfl ?_
      refine lM rfl rfl rfl ?_
      refine fM rfl ?_
      refine Run.condF rfl rfl (by simp) ?_
      refine fR rfl ?_
      refine Run.fin rfl (EndOk.go ?_); exact .own rfl
    · rintro i x r B h1 hi hdr ⟨hBl, hB⟩ ih
      have hBl' : B.length ≤ i := hBl
      refine fR rfl ?_
      refine lM rfl rfl rfl ?_
      refine fM rfl ?_
      refine Run.condT rfl rfl (by simp; omega) ?_
      refine fR rfl ?_
      refine Mid.elemMap rfl rfl rfl h1 rfl rfl ?_
      refine fM rfl ?_
      by_cases e0 : x.name = ([107, 101, 121] : Str)
      · refine Run.condT rfl rfl (by simp [e0]) ?_
        refine Run.condT rfl rfl (by simp [e0]) ?_
        refine fR rfl ?_
        refine aL rfl rfl rfl rfl rfl ?_
        refine fM rfl ?_
        exact rWeak 1 rfl (ih B ⟨by omega, by rw [← hB, pubF_cons, if_pos (by unfold subD; simp [e0])]⟩) rfl rfl rfl
      · refine Run.condF rfl rfl (by simp [e0]) ?_
        refine fR rfl ?_
        by_cases e1 : x.name = ([101, 120, 116, 101, 114, 110, 97, 108] : Str)
        · refine Run.condT rfl rfl (by simp [e1]) ?_
          refine Run.condT rfl rfl (by simp [e1]) ?_
          refine fR rfl ?_
          refine aL rfl rfl rfl rfl rfl ?_
          refine fM rfl ?_
          exact rWeak 1 rfl (ih B ⟨by omega, by rw [← hB, pubF_cons, if_pos (by unfold subD; simp [e1])]⟩) rfl rfl rfl
        · refine Run.condF rfl rfl (by simp [e1]) ?_
          refine fR rfl ?_
          by_cases e2 : x.name = ([115, 104, 97, 114, 101, 97, 98, 108, 101] : Str)
          · refine Run.condT rfl rfl (by simp [e2]) ?_
            refine Run.condT rfl rfl (by simp [e2]) ?_
            refine fR rfl ?_
            refine aL rfl rfl rfl rfl rfl ?_
            refine fM rfl ?_
            exact rWeak 1 rfl (ih B ⟨by omega, by rw [← hB, pubF_cons, if_pos (by unfold subD; simp [e2])]⟩) rfl rfl rfl
          · refine Run.condF rfl rfl (by simp [e2]) ?_
            refine fR rfl ?_
            by_cases e3 : x.name = ([114, 101, 113, 117, 105, 114, 101, 115] : Str)
            · refine Run.condT rfl rfl (by simp [e3]) ?_
              refine Run.condT rfl rfl (by simp [e3]) ?_
              refine fR rfl ?_
              refine aL rfl rfl rfl rfl rfl ?_
              refine fM rfl ?_
              exact rWeak 1 rfl (ih B ⟨by omega, by rw [← hB, pubF_cons, if_pos (by unfold subD; simp [e3])]⟩) rfl rfl rfl
            · refine Run.condF rfl rfl (by simp [e3]) ?_
              refine fR rfl ?_
              by_cases e4 : x.name = ([112, 114, 111, 118, 105, 100, 101, 115] : Str)
              · refine Run.condT rfl rfl (by simp [e4]) ?_
                refine fR rfl ?_
                refine aL rfl rfl rfl rfl rfl ?_
                refine fM rfl ?_
                exact rWeak 1 rfl (ih B ⟨by omega, by rw [← hB, pubF_cons, if_pos (by unfold subD; simp [e4])]⟩) rfl rfl rfl
              · refine Run.condF rfl rfl (by simp [e4]) ?_
                refine fR rfl ?_
                refine Mid.elemMap rfl rfl rfl h1 rfl rfl ?_
                refine fM rfl ?_
                refine apM Dir.enc B [x] rfl rfl rfl rfl rfl ?_ (h1 := by first | omega | (simp; omega) | (simp; done)) (h2 := by first | omega | (simp; omega) | (simp; done))
                refine fM rfl ?_
                refine aL rfl rfl rfl rfl rfl ?_
                refine fM rfl ?_
                exact rWeak 1 rfl (ih (B ++ [x]) ⟨by simp; omega, by rw [← hB, pubF_cons, if_neg (by unfold subD; simp [e0, e1, e2, e3, e4])]; simp⟩) rfl rfl rfl
  exact hR _ rfl
/-- the value of an argument of the first of the uses by a name -/
def argD (n a : Str) : List Dir → Option Val
  | [] => none
  | d :: r => if d.name = n then argF a d.args else argD n a r
structure AOk (l : List Dir) : Prop where
  len : l.length ≤ 1099511627776
  all : ∀ d, d ∈ l → d.args.length ≤ 140737488355328
end Go.GB.C23


/-
  F23J: chapter 23's functions: the program's check of directives.
-/
namespace Go.GB.C23
open Go.GB Go.GB.C11
set_option linter.unusedSimpArgs false
set_option linter.unusedVariables false
set_option maxRecDepth 100000
set_option maxHeartbeats 4000000
variable {P : Program}

theorem chk_ok (H : Pr23 P) (ds : List Def) (hdl : ds.length ≤ 140737488355328) (hD : ∀ t, t ∈ ds → DefD t) (hl : (chkD ds).length ≤ 2199023255552) : FnOk P 17 [docV ds] ⟨[], 0⟩ { v := .t (.lst ((chkD ds).map Fault.enc)) } := by
  have hR : ∀ R, chkD ds = R → R.length ≤ 2199023255552 → FnOk P 17 [docV ds] ⟨[], 0⟩ { v := .t (.lst (R.map Fault.enc)) } := by
    intro R hR hl
    refine FnOk.run H.i17 H.mixed rfl rfl ?_
    refine fR rfl ?_
    refine lM rfl rfl rfl ?_
    refine fM rfl ?_
    refine rList ds (fun i (B : List Fault) => { env := [(3, .own 1 2 (B.map Fault.enc)), (18, .t (.lst (ds.map Def.enc))), (19, .t (.int .i64 ds.length)), (20, .t (.int .i64 i))], s := ⟨[(1, .arr B.length)], 2⟩ }) (fun r i B => B ++ chkD r = R) 1 [] rfl hR rfl rfl rfl ?_ ?_
    · rintro B hB
      have hB' : B = R := by rw [← hB]; simp [chkD]
      subst hB'
      refine fR rfl ?_
      refine Run.condF rfl rfl (by simp) ?_
      refine fR rfl ?_
      refine Run.fin rfl (EndOk.go ?_); exact .own rfl
    · rintro i t r B h1 hi hdr hB ih
      have ht := hD t (List.mem_of_getElem? h1)
      have hnm := ht.nm
      have hdd := ht.d.len
      have hlen := congrArg List.length hB
      simp only [chkD, defL, List.length_append] at hlen
      have hB2 : (B ++ usesF (ownP t.kind) t.name [] t.dirs) ++ partL t ++ chkD r = R := by rw [← hB]; simp [chkD, defL]
      refine fR rfl ?_
      refine Run.condT rfl rfl (by simp; omega) ?_
      refine fR rfl ?_
      refine Mid.elemMap rfl rfl rfl h1 rfl rfl ?_
      refine fM rfl ?_
      by_cases k1 : t.kind = 1
      · have ho : ownP t.kind = 1 := by unfold ownP; rw [if_pos k1]
        rw [ho] at hB2 hlen
        rw [partL1 (.inl k1), plK, if_neg (by omega)] at hB2 hlen
        refine Run.condT rfl rfl (by simp [k1]) ?_
        refine fR rfl ?_
        refine Mid.callO [1] (uses_ok H B t.dirs ht.d 1 t.name (by omega)) rfl rfl rfl rfl (by simp [stoBd]; simp [AObj.bd]) (by repeat' (first | exact trivial | exact rfl | refine And.intro ?_ ?_ | exact (congrArg some (AObj.ren_mE _ _ _ _ _ _)).symm | exact (congrArg some (AObj.ren_cE _ _ _)).symm)) rfl rfl (ob' := [(1, .arr (B ++ usesF 1 t.name [] t.dirs).length)]) (rfl) rfl rfl ?_
        refine fM rfl ?_
        refine Run.condT rfl rfl (by simp [k1]) ?_
        refine Run.condT rfl rfl (by simp [k1]) ?_
        have hfl := ht.fl
        refine fR rfl ?_
        refine lM rfl rfl rfl ?_
        refine fM rfl ?_
        refine rList t.fields (fun j (C : List Fault) => { env := [(3, .own 1 2 (C.map Fault.enc)), (5, .ptr 2 0), (7, .t (.int .i64 4)), (18, .t (.lst (ds.map Def.enc))), (19, .t (.int .i64 ds.length)), (20, .t (.int .i64 i)), (45, .t (.lst (t.fields.map Field.enc))), (46, .t (.int .i64 t.fields.length)), (47, .t (.int .i64 j))], s := ⟨[(1, .arr C.length), (2, (.cells [.t (.int .i64 t.kind), .t (.str t.name), .t (.lst (t.implements.map sE)), .t (.lst (t.dirs.map Dir.enc)), .t (.lst (t.fields.map Field.enc)), .t (.lst (t.members.map Member.enc)), .t (.lst (t.inputs.map Input.enc))]))], 3⟩ }) (fun r2 j C => C ++ (fldL t.name 4 r2 ++ chkD r) = R) 3 (B ++ usesF 1 t.name [] t.dirs) rfl (by rw [← hB2]; simp) rfl rfl rfl ?_ ?_
        · rintro C hC
          refine fR rfl ?_
          refine Run.condF rfl rfl (by simp) ?_
          refine fR rfl ?_
          refine aL rfl rfl rfl rfl rfl ?_
          refine fM rfl ?_
          exact rWeak 2 rfl (ih C (by rw [← hC]; simp [fldL])) rfl rfl rfl
        · rintro j x r2 C h2 hj hjd hC ih2
          have hx := ht.f x (List.mem_of_getElem? h2)
          have hxn := hx.nm
          have hxd := hx.d.len
          have hal := hx.al
          have hlen2 := congrArg List.length hC
          simp only [fldL, List.length_append] at hlen2
          refine fR rfl ?_
          refine Run.condT rfl rfl (by simp; omega) ?_
          refine fR rfl ?_
          refine Mid.elemMap rfl rfl rfl h2 rfl rfl ?_
          refine fM rfl ?_
          refine pu rfl ?_
          refine fM rfl ?_
          refine pu rfl ?_
          refine fM rfl ?_
          refine Mid.callO [1] (uses_ok H C x.dirs hx.d 4 (t.name ++ [46] ++ x.name) (by omega)) rfl rfl rfl rfl (by simp [stoBd]; simp [AObj.bd]) (by repeat' (first | exact trivial | exact rfl | refine And.intro ?_ ?_ | exact (congrArg some (AObj.ren_mE _ _ _ _ _ _)).symm | exact (congrArg some (AObj.ren_cE _ _ _)).symm)) rfl rfl (ob' := [(1, .arr (C ++ usesF 4 (t.name ++ [46] ++ x.name) [] x.dirs).length)]) (rfl) rfl rfl ?_
          refine fM rfl ?_
          refine lM rfl rfl rfl ?_
          refine fM rfl ?_
          refine rList x.args (fun m (D : List Fault) => { env := [(3, .own 1 2 (D.map Fault.enc)), (5, .ptr 2 0), (7, .t (.int .i64 4)), (10, .t (.str (t.name ++ [46] ++ x.name))), (18, .t (.lst (ds.map Def.enc))), (19, .t (.int .i64 ds.length)), (20, .t (.int .i64 i)), (45, .t (.lst (t.fields.map Field.enc))), (46, .t (.int .i64 t.fields.length)), (47, .t (.int .i64 j)), (64, .t (.lst (x.args.map Input.enc))), (65, .t (.int .i64 x.args.length)), (66, .t (.int .i64 m))], s := ⟨[(1, .arr D.length), (2, (.cells [.t (.int .i64 t.kind), .t (.str t.name), .t (.lst (t.implements.map sE)), .t (.lst (t.dirs.map Dir.enc)), .t (.lst (t.fields.map Field.enc)), .t (.lst (t.members.map Member.enc)), .t (.lst (t.inputs.map Input.enc))]))], 4⟩ }) (fun r3 m D => D ++ (argL (t.name ++ [46] ++ x.name) r3 ++ (fldL t.name 4 r2 ++ chkD r)) = R) 4 (C ++ usesF 4 (t.name ++ [46] ++ x.name) [] x.dirs) rfl (by rw [← hC]; simp [fldL]) rfl rfl rfl ?_ ?_
          · rintro D hD2
            refine fR rfl ?_
            refine Run.condF rfl rfl (by simp) ?_
            refine fR rfl ?_
            refine aL rfl rfl rfl rfl rfl ?_
            refine fM rfl ?_
            exact rWeak 3 rfl (ih2 D (by rw [← hD2]; simp [argL])) rfl rfl rfl
          · rintro m a r3 D h3 hm hmd hD2 ih3
            have ha := hx.a a (List.mem_of_getElem? h3)
            have han := ha.nm
            have had := ha.d.len
            have hlen3 := congrArg List.length hD2
            simp only [argL, List.length_append] at hlen3
            refine fR rfl ?_
            refine Run.condT rfl rfl (by simp; omega) ?_
            refine fR rfl ?_
            refine Mid.elemMap rfl rfl rfl h3 rfl rfl ?_
            refine fM rfl ?_
            refine pu rfl ?_
            refine fM rfl ?_
            refine pu rfl ?_
            refine pu rfl ?_
            refine Mid.callO [1] (uses_ok H D a.dirs ha.d 0 (t.name ++ [46] ++ x.name ++ [40] ++ a.name ++ [41]) (by omega)) rfl rfl rfl rfl (by simp [stoBd]; simp [AObj.bd]) (by repeat' (first | exact trivial | exact rfl | refine And.intro ?_ ?_ | exact (congrArg some (AObj.ren_mE _ _ _ _ _ _)).symm | exact (congrArg some (AObj.ren_cE _ _ _)).symm)) rfl rfl (ob' := [(1, .arr (D ++ usesF 0 (t.name ++ [46] ++ x.name ++ [40] ++ a.name ++ [41]) [] a.dirs).length)]) (rfl) rfl rfl ?_
            refine fM rfl ?_
            refine aL rfl rfl rfl rfl rfl ?_
            refine fM rfl ?_
            exact rWeak 4 rfl (ih3 (D ++ usesF 0 (t.name ++ [46] ++ x.name ++ [40] ++ a.name ++ [41]) [] a.dirs) (by rw [← hD2]; simp [argL])) rfl rfl rfl
      · have ho : ownP t.kind = 2 := by unfold ownP; rw [if_neg k1]
        rw [ho] at hB2 hlen
        refine Run.condF rfl rfl (by simp [k1]) ?_
        refine fR rfl ?_
        by_cases k2 : t.kind = 2
        · rw [partL1 (.inr k2), plK, if_pos k2] at hB2 hlen
          refine Run.condT rfl rfl (by simp [k2]) ?_
          refine fR rfl ?_
          refine Mid.callO [1] (uses_ok H B t.dirs ht.d 2 t.name (by omega)) rfl rfl rfl rfl (by simp [stoBd]; simp [AObj.bd]) (by repeat' (first | exact trivial | exact rfl | refine And.intro ?_ ?_ | exact (congrArg some (AObj.ren_mE _ _ _ _ _ _)).symm | exact (congrArg some (AObj.ren_cE _ _ _)).symm)) rfl rfl (ob' := [(1, .arr (B ++ usesF 2 t.name [] t.dirs).length)]) (rfl) rfl rfl ?_
          refine fM rfl ?_
          refine Run.condF rfl rfl (by simp [k1]) ?_
          refine fR rfl ?_
          refine Run.condT rfl rfl (by simp [k2]) ?_
          have hfl := ht.fl
          refine fR rfl ?_
          refine lM rfl rfl rfl ?_
          refine fM rfl ?_
          refine rList t.fields (fun j (C : List Fault) => { env := [(3, .own 1 2 (C.map Fault.enc)), (5, .ptr 2 0), (7, .t (.int .i64 8)), (18, .t (.lst (ds.map Def.enc))), (19, .t (.int .i64 ds.length)), (20, .t (.int .i64 i)), (45, .t (.lst (t.fields.map Field.enc))), (46, .t (.int .i64 t.fields.length)), (47, .t (.int .i64 j))], s := ⟨[(1, .arr C.length), (2, (.cells [.t (.int .i64 t.kind), .t (.str t.name), .t (.lst (t.implements.map sE)), .t (.lst (t.dirs.map Dir.enc)), .t (.lst (t.fields.map Field.enc)), .t (.lst (t.members.map Member.enc)), .t (.lst (t.inputs.map Input.enc))]))], 3⟩ }) (fun r2 j C => C ++ (fldL t.name 8 r2 ++ chkD r) = R) 3 (B ++ usesF 2 t.name [] t.dirs) rfl (by rw [← hB2]; simp) rfl rfl rfl ?_ ?_
          · rintro C hC
            refine fR rfl ?_
            refine Run.condF rfl rfl (by simp) ?_
            refine fR rfl ?_
            refine aL rfl rfl rfl rfl rfl ?_
            refine fM rfl ?_
            exact rWeak 2 rfl (ih C (by rw [← hC]; simp [fldL])) rfl rfl rfl
          · rintro j x r2 C h2 hj hjd hC ih2
            have hx := ht.f x (List.mem_of_getElem? h2)
            have hxn := hx.nm
            have hxd := hx.d.len
            have hal := hx.al
            have hlen2 := congrArg List.length hC
            simp only [fldL, List.length_append] at hlen2
            refine fR rfl ?_
            refine Run.condT rfl rfl (by simp; omega) ?_
            refine fR rfl ?_
            refine Mid.elemMap rfl rfl rfl h2 rfl rfl ?_
            refine fM rfl ?_
            refine pu rfl ?_
            refine fM rfl ?_
            refine pu rfl ?_
            refine fM rfl ?_
            refine Mid.callO [1] (uses_ok H C x.dirs hx.d 8 (t.name ++ [46] ++ x.name) (by omega)) rfl rfl rfl rfl (by simp [stoBd]; simp [AObj.bd]) (by repeat' (first | exact trivial | exact rfl | refine And.intro ?_ ?_ | exact (congrArg some (AObj.ren_mE _ _ _ _ _ _)).symm | exact (congrArg some (AObj.ren_cE _ _ _)).symm)) rfl rfl (ob' := [(1, .arr (C ++ usesF 8 (t.name ++ [46] ++ x.name) [] x.dirs).length)]) (rfl) rfl rfl ?_
            refine fM rfl ?_
            refine lM rfl rfl rfl ?_
            refine fM rfl ?_
            refine rList x.args (fun m (D : List Fault) => { env := [(3, .own 1 2 (D.map Fault.enc)), (5, .ptr 2 0), (7, .t (.int .i64 8)), (10, .t (.str (t.name ++ [46] ++ x.name))), (18, .t (.lst (ds.map Def.enc))), (19, .t (.int .i64 ds.length)), (20, .t (.int .i64 i)), (45, .t (.lst (t.fields.map Field.enc))), (46, .t (.int .i64 t.fields.length)), (47, .t (.int .i64 j)), (64, .t (.lst (x.args.map Input.enc))), (65, .t (.int .i64 x.args.length)), (66, .t (.int .i64 m))], s := ⟨[(1, .arr D.length), (2, (.cells [.t (.int .i64 t.kind), .t (.str t.name), .t (.lst (t.implements.map sE)), .t (.lst (t.dirs.map Dir.enc)), .t (.lst (t.fields.map Field.enc)), .t (.lst (t.members.map Member.enc)), .t (.lst (t.inputs.map Input.enc))]))], 4⟩ }) (fun r3 m D => D ++ (argL (t.name ++ [46] ++ x.name) r3 ++ (fldL t.name 8 r2 ++ chkD r)) = R) 4 (C ++ usesF 8 (t.name ++ [46] ++ x.name) [] x.dirs) rfl (by rw [← hC]; simp [fldL]) rfl rfl rfl ?_ ?_
            · rintro D hD2
              refine fR rfl ?_
              refine Run.condF rfl rfl (by simp) ?_
              refine fR rfl ?_
              refine aL rfl rfl rfl rfl rfl ?_
              refine fM rfl ?_
              exact rWeak 3 rfl (ih2 D (by rw [← hD2]; simp [argL])) rfl rfl rfl
            · rintro m a r3 D h3 hm hmd hD2 ih3
              have ha := hx.a a (List.mem_of_getElem? h3)
              have han := ha.nm
              have had := ha.d.len
              have hlen3 := congrArg List.length hD2
              simp only [argL, List.length_append] at hlen3
              refine fR rfl ?_
              refine Run.condT rfl rfl (by simp; omega) ?_
              refine fR rfl ?_
              refine Mid.elemMap rfl rfl rfl h3 rfl rfl ?_
              refine fM rfl ?_
              refine pu rfl ?_
              refine fM rfl ?_
              refine pu rfl ?_
              refine pu rfl ?_
              refine Mid.callO [1] (uses_ok H D a.dirs ha.d 0 (t.name ++ [46] ++ x.name ++ [40] ++ a.name ++ [41]) (by omega)) rfl rfl rfl rfl (by simp [stoBd]; simp [AObj.bd]) (by repeat' (first | exact trivial | exact rfl | refine And.intro ?_ ?_ | exact (congrArg some (AObj.ren_mE _ _ _ _ _ _)).symm | exact (congrArg some (AObj.ren_cE _ _ _)).symm)) rfl rfl (ob' := [(1, .arr (D ++ usesF 0 (t.name ++ [46] ++ x.name ++ [40] ++ a.name ++ [41]) [] a.dirs).length)]) (rfl) rfl rfl ?_
              refine fM rfl ?_
              refine aL rfl rfl rfl rfl rfl ?_
              refine fM rfl ?_
              exact rWeak 4 rfl (ih3 (D ++ usesF 0 (t.name ++ [46] ++ x.name ++ [40] ++ a.name ++ [41]) [] a.dirs) (by rw [← hD2]; simp [argL])) rfl rfl rfl
        · refine Run.condF rfl rfl (by simp [k2]) ?_
          refine fR rfl ?_
          by_cases k4 : t.kind = 4
          · rw [partL4 k4] at hB2 hlen
            refine Run.condT rfl rfl (by simp [k4]) ?_
            refine fR rfl ?_
            refine Mid.callO [1] (uses_ok H B t.dirs ht.d 2 t.name (by omega)) rfl rfl rfl rfl (by simp [stoBd]; simp [AObj.bd]) (by repeat' (first | exact trivial | exact rfl | refine And.intro ?_ ?_ | exact (congrArg some (AObj.ren_mE _ _ _ _ _ _)).symm | exact (congrArg some (AObj.ren_cE _ _ _)).symm)) rfl rfl (ob' := [(1, .arr (B ++ usesF 2 t.name [] t.dirs).length)]) (rfl) rfl rfl ?_
            refine fM rfl ?_
            refine Run.condF rfl rfl (by simp [k1]) ?_
            refine fR rfl ?_
            refine Run.condF rfl rfl (by simp [k2]) ?_
            refine fR rfl ?_
            refine Run.condF rfl rfl (by simp [k4]) ?_
            refine fR rfl ?_
            refine Run.condT rfl rfl (by simp [k4]) ?_
            have hml := ht.ml
            refine fR rfl ?_
            refine lM rfl rfl rfl ?_
            refine fM rfl ?_
            refine rList t.members (fun j (C : List Fault) => { env := [(3, .own 1 2 (C.map Fault.enc)), (5, .ptr 2 0), (7, .t (.int .i64 16)), (18, .t (.lst (ds.map Def.enc))), (19, .t (.int .i64 ds.length)), (20, .t (.int .i64 i)), (86, .t (.lst (t.members.map Member.enc))), (87, .t (.int .i64 t.members.length)), (88, .t (.int .i64 j))], s := ⟨[(1, .arr C.length), (2, (.cells [.t (.int .i64 t.kind), .t (.str t.name), .t (.lst (t.implements.map sE)), .t (.lst (t.dirs.map Dir.enc)), .t (.lst (t.fields.map Field.enc)), .t (.lst (t.members.map Member.enc)), .t (.lst (t.inputs.map Input.enc))]))], 3⟩ }) (fun r2 j C => C ++ (memL t.name 16 r2 ++ chkD r) = R) 3 (B ++ usesF 2 t.name [] t.dirs) rfl (by rw [← hB2]; simp) rfl rfl rfl ?_ ?_
            · rintro C hC
              refine fR rfl ?_
              refine Run.condF rfl rfl (by simp) ?_
              refine fR rfl ?_
              refine aL rfl rfl rfl rfl rfl ?_
              refine fM rfl ?_
              exact rWeak 2 rfl (ih C (by rw [← hC]; simp [memL])) rfl rfl rfl
            · rintro j x r2 C h2 hj hjd hC ih2
              have hx := ht.m x (List.mem_of_getElem? h2)
              have hxn := hx.nm
              have hxd := hx.d.len
              have hlen2 := congrArg List.length hC
              simp only [memL, List.length_append] at hlen2
              refine fR rfl ?_
              refine Run.condT rfl rfl (by simp; omega) ?_
              refine fR rfl ?_
              refine Mid.elemMap rfl rfl rfl h2 rfl rfl ?_
              refine fM rfl ?_
              refine pu rfl ?_
              refine fM rfl ?_
              refine pu rfl ?_
              refine Mid.callO [1] (uses_ok H C x.dirs hx.d 16 (t.name ++ [46] ++ x.name) (by omega)) rfl rfl rfl rfl (by simp [stoBd]; simp [AObj.bd]) (by repeat' (first | exact trivial | exact rfl | refine And.intro ?_ ?_ | exact (congrArg some (AObj.ren_mE _ _ _ _ _ _)).symm | exact (congrArg some (AObj.ren_cE _ _ _)).symm)) rfl rfl (ob' := [(1, .arr (C ++ usesF 16 (t.name ++ [46] ++ x.name) [] x.dirs).length)]) (rfl) rfl rfl ?_
              refine fM rfl ?_
              refine aL rfl rfl rfl rfl rfl ?_
              refine fM rfl ?_
              exact rWeak 3 rfl (ih2 (C ++ usesF 16 (t.name ++ [46] ++ x.name) [] x.dirs) (by rw [← hC]; simp [memL])) rfl rfl rfl
          · refine Run.condF rfl rfl (by simp [k4]) ?_
            refine fR rfl ?_
            refine Mid.callO [1] (uses_ok H B t.dirs ht.d 2 t.name (by omega)) rfl rfl rfl rfl (by simp [stoBd]; simp [AObj.bd]) (by repeat' (first | exact trivial | exact rfl | refine And.intro ?_ ?_ | exact (congrArg some (AObj.ren_mE _ _ _ _ _ _)).symm | exact (congrArg some (AObj.ren_cE _ _ _)).symm)) rfl rfl (ob' := [(1, .arr (B ++ usesF 2 t.name [] t.dirs).length)]) (rfl) rfl rfl ?_
            refine fM rfl ?_
            refine Run.condF rfl rfl (by simp [k1]) ?_
            refine fR rfl ?_
            refine Run.condF rfl rfl (by simp [k2]) ?_
            refine fR rfl ?_
            by_cases k3 : t.kind = 3
            · rw [partL3 k3] at hB2 hlen
              refine Run.condT rfl rfl (by simp [k3]) ?_
              refine Run.condT rfl rfl (by simp [k3]) ?_
              have hml := ht.ml
              refine fR rfl ?_
              refine lM rfl rfl rfl ?_
              refine fM rfl ?_
              refine rList t.members (fun j (C : List Fault) => { env := [(3, .own 1 2 (C.map Fault.enc)), (5, .ptr 2 0), (7, .t (.int .i64 0)), (18, .t (.lst (ds.map Def.enc))), (19, .t (.int .i64 ds.length)), (20, .t (.int .i64 i)), (86, .t (.lst (t.members.map Member.enc))), (87, .t (.int .i64 t.members.length)), (88, .t (.int .i64 j))], s := ⟨[(1, .arr C.length), (2, (.cells [.t (.int .i64 t.kind), .t (.str t.name), .t (.lst (t.implements.map sE)), .t (.lst (t.dirs.map Dir.enc)), .t (.lst (t.fields.map Field.enc)), .t (.lst (t.members.map Member.enc)), .t (.lst (t.inputs.map Input.enc))]))], 3⟩ }) (fun r2 j C => C ++ (memL t.name 0 r2 ++ chkD r) = R) 3 (B ++ usesF 2 t.name [] t.dirs) rfl (by rw [← hB2]; simp) rfl rfl rfl ?_ ?_
              · rintro C hC
                refine fR rfl ?_
                refine Run.condF rfl rfl (by simp) ?_
                refine fR rfl ?_
                refine aL rfl rfl rfl rfl rfl ?_
                refine fM rfl ?_
                exact rWeak 2 rfl (ih C (by rw [← hC]; simp [memL])) rfl rfl rfl
              · rintro j x r2 C h2 hj hjd hC ih2
                have hx := ht.m x (List.mem_of_getElem? h2)
                have hxn := hx.nm
                have hxd := hx.d.len
                have hlen2 := congrArg List.length hC
                simp only [memL, List.length_append] at hlen2
                refine fR rfl ?_
                refine Run.condT rfl rfl (by simp; omega) ?_
                refine fR rfl ?_
                refine Mid.elemMap rfl rfl rfl h2 rfl rfl ?_
                refine fM rfl ?_
                refine pu rfl ?_
                refine fM rfl ?_
                refine pu rfl ?_
                refine Mid.callO [1] (uses_ok H C x.dirs hx.d 0 (t.name ++ [46] ++ x.name) (by omega)) rfl rfl rfl rfl (by simp [stoBd]; simp [AObj.bd]) (by repeat' (first | exact trivial | exact rfl | refine And.intro ?_ ?_ | exact (congrArg some (AObj.ren_mE _ _ _ _ _ _)).symm | exact (congrArg some (AObj.ren_cE _ _ _)).symm)) rfl rfl (ob' := [(1, .arr (C ++ usesF 0 (t.name ++ [46] ++ x.name) [] x.dirs).length)]) (rfl) rfl rfl ?_
                refine fM rfl ?_
                refine aL rfl rfl rfl rfl rfl ?_
                refine fM rfl ?_
                exact rWeak 3 rfl (ih2 (C ++ usesF 0 (t.name ++ [46] ++ x.name) [] x.dirs) (by rw [← hC]; simp [memL])) rfl rfl rfl
            · refine Run.condF rfl rfl (by simp [k3]) ?_
              refine fR rfl ?_
              refine Run.condF rfl rfl (by simp [k4]) ?_
              refine fR rfl ?_
              by_cases k5 : t.kind = 5
              · rw [partL5 k5] at hB2 hlen
                refine Run.condT rfl rfl (by simp [k5]) ?_
                have hil := ht.il
                refine fR rfl ?_
                refine lM rfl rfl rfl ?_
                refine fM rfl ?_
                refine rList t.inputs (fun j (C : List Fault) => { env := [(3, .own 1 2 (C.map Fault.enc)), (5, .ptr 2 0), (18, .t (.lst (ds.map Def.enc))), (19, .t (.int .i64 ds.length)), (20, .t (.int .i64 i)), (107, .t (.lst (t.inputs.map Input.enc))), (108, .t (.int .i64 t.inputs.length)), (109, .t (.int .i64 j))], s := ⟨[(1, .arr C.length), (2, (.cells [.t (.int .i64 t.kind), .t (.str t.name), .t (.lst (t.implements.map sE)), .t (.lst (t.dirs.map Dir.enc)), .t (.lst (t.fields.map Field.enc)), .t (.lst (t.members.map Member.enc)), .t (.lst (t.inputs.map Input.enc))]))], 3⟩ }) (fun r2 j C => C ++ (inpL t.name r2 ++ chkD r) = R) 3 (B ++ usesF 2 t.name [] t.dirs) rfl (by rw [← hB2]; simp) rfl rfl rfl ?_ ?_
                · rintro C hC
                  refine fR rfl ?_
                  refine Run.condF rfl rfl (by simp) ?_
                  refine fR rfl ?_
                  refine aL rfl rfl rfl rfl rfl ?_
                  refine fM rfl ?_
                  exact rWeak 2 rfl (ih C (by rw [← hC]; simp [inpL])) rfl rfl rfl
                · rintro j x r2 C h2 hj hjd hC ih2
                  have hx := ht.i x (List.mem_of_getElem? h2)
                  have hxn := hx.nm
                  have hxd := hx.d.len
                  have hlen2 := congrArg List.length hC
                  simp only [inpL, List.length_append] at hlen2
                  refine fR rfl ?_
                  refine Run.condT rfl rfl (by simp; omega) ?_
                  refine fR rfl ?_
                  refine Mid.elemMap rfl rfl rfl h2 rfl rfl ?_
                  refine fM rfl ?_
                  refine pu rfl ?_
                  refine fM rfl ?_
                  refine pu rfl ?_
                  refine Mid.callO [1] (uses_ok H C x.dirs hx.d 0 (t.name ++ [46] ++ x.name) (by omega)) rfl rfl rfl rfl (by simp [stoBd]; simp [AObj.bd]) (by repeat' (first | exact trivial | exact rfl | refine And.intro ?_ ?_ | exact (congrArg some (AObj.ren_mE _ _ _ _ _ _)).symm | exact (congrArg some (AObj.ren_cE _ _ _)).symm)) rfl rfl (ob' := [(1, .arr (C ++ usesF 0 (t.name ++ [46] ++ x.name) [] x.dirs).length)]) (rfl) rfl rfl ?_
                  refine fM rfl ?_
                  refine aL rfl rfl rfl rfl rfl ?_
                  refine fM rfl ?_
                  exact rWeak 3 rfl (ih2 (C ++ usesF 0 (t.name ++ [46] ++ x.name) [] x.dirs) (by rw [← hC]; simp [inpL])) rfl rfl rfl
              · rw [partL0 k1 k2 k3 k4 k5] at hB2
                refine Run.condF rfl rfl (by simp [k5]) ?_
                refine fR rfl ?_
                refine aL rfl rfl rfl rfl rfl ?_
                refine fM rfl ?_
                exact rWeak 2 rfl (ih (B ++ usesF 2 t.name [] t.dirs) (by rw [← hB2]; simp)) rfl rfl rfl
  exact hR _ rfl hl
end Go.GB.C23


/-
  F23L: chapter 23's functions: documents without the directives of subgraphs; the laws of sets, of checks, of what is found.
-/
namespace Go.GB.C23
open Go.GB Go.GB.C11
set_option linter.unusedSimpArgs false
set_option linter.unusedVariables false
set_option maxRecDepth 100000
set_option maxHeartbeats 4000000
variable {P : Program}

theorem bare_ok (H : Pr23 P) (t : Def) (ht : DefD t) : FnOk P 22 [t.v] ⟨[], 0⟩ { v := (bareD t).v } := by
  have hfl := ht.fl
  have hml := ht.ml
  have hil := ht.il
  refine FnOk.run H.i22 H.mixed rfl rfl ?_
  refine fR rfl ?_
  refine Mid.call (public_ok H t.dirs ht.d.len) rfl rfl rfl rfl ?_
  refine fM rfl ?_
  refine rList t.fields (fun i (B : List Field) => { env := [(1, .ptr 0 0), (2, .ptr 1 0), (3, .ptr 2 0), (4, .t (.int .i64 i))], s := ⟨[(0, (.cells [.t (.int .i64 t.kind), .t (.str t.name), .t (.lst (t.implements.map sE)), .t (.lst (t.dirs.map Dir.enc)), .t (.lst (t.fields.map Field.enc)), .t (.lst (t.members.map Member.enc)), .t (.lst (t.inputs.map Input.enc))])), (1, (.cells [.t (.int .i64 0), .t (.str []), .nils, .nils, .nils, .nils, .nils])), (2, (.cells [.t (.int .i64 t.kind), .t (.str t.name), .t (.lst (t.implements.map sE)), .t (.lst ((pubF t.dirs).map Dir.enc)), .own 3 5 (B.map Field.enc), .nils, .nils])), (3, .arr B.length)], 4⟩ }) (fun r i B => B.length ≤ i ∧ B ++ r.map bareF = t.fields.map bareF) 3 [] rfl ⟨by simp, rfl⟩ rfl rfl rfl ?_ ?_ (he := (by repeat' (first | exact trivial | exact LeX.t | exact LeX.top | exact LeX.nilOwn (Nat.le_of_ble_eq_true rfl) (Nat.le_of_ble_eq_true rfl) | exact LeX.ownT | exact LeX.nilT | exact LeX.same rfl | exact LeX.tEq (by simp) | exact LeX.ownEq (by simp) (Nat.le_of_ble_eq_true rfl) | exact LeX.tEq (by congr 1 <;> omega) | exact Or.inr ⟨Nat.le_of_ble_eq_true rfl, Nat.le_of_ble_eq_true rfl, rfl⟩ | refine Or.inl ⟨Nat.le_of_ble_eq_true rfl, _, rfl, ?_⟩ | refine LeO.cells ?_ | exact LeO.arr rfl | exact LeO.arr (by simp) | exact LeO.mE (by first | rfl | simp) (by first | exact Or.inl rfl | exact Or.inr rfl) | exact LeO.cE (by first | rfl | simp) | exact LeXs.cE (by first | rfl | simp) | refine LeO.map (by first | rfl | simp) ?_ (by first | exact Or.inl rfl | exact Or.inr rfl) | exact LeO.iter (by first | rfl | simp) (Nat.le_of_ble_eq_true rfl) | refine LeXs.cons ?_ ?_ | exact LeXs.nil | refine And.intro ?_ ?_))) (hs := (by repeat' (first | exact trivial | exact LeX.t | exact LeX.top | exact LeX.nilOwn (Nat.le_of_ble_eq_true rfl) (Nat.le_of_ble_eq_true rfl) | exact LeX.ownT | exact LeX.nilT | exact LeX.same rfl | exact LeX.tEq (by simp) | exact LeX.ownEq (by simp) (Nat.le_of_ble_eq_true rfl) | exact LeX.tEq (by congr 1 <;> omega) | exact Or.inr ⟨Nat.le_of_ble_eq_true rfl, Nat.le_of_ble_eq_true rfl, rfl⟩ | refine Or.inl ⟨Nat.le_of_ble_eq_true rfl, _, rfl, ?_⟩ | refine LeO.cells ?_ | exact LeO.arr rfl | exact LeO.arr (by simp) | exact LeO.mE (by first | rfl | simp) (by first | exact Or.inl rfl | exact Or.inr rfl) | exact LeO.cE (by first | rfl | simp) | exact LeXs.cE (by first | rfl | simp) | refine LeO.map (by first | rfl | simp) ?_ (by first | exact Or.inl rfl | exact Or.inr rfl) | exact LeO.iter (by first | rfl | simp) (Nat.le_of_ble_eq_true rfl) | refine LeXs.cons ?_ ?_ | exact LeXs.nil | refine And.intro ?_ ?_)))
  · rintro B ⟨_, hB⟩
    have hB' : B = t.fields.map bareF := by rw [← hB]; simp
    subst hB'
    refine fR rfl ?_
    refine lM rfl rfl rfl ?_
    refine fM rfl ?_
    refine Run.condF rfl rfl (by simp) ?_
    refine fR rfl ?_
    refine rList t.members (fun i (B : List Member) => { env := [(1, .ptr 0 0), (2, .ptr 1 0), (3, .ptr 2 0), (6, .t (.int .i64 i))], s := ⟨[(0, (.cells [.t (.int .i64 t.kind), .t (.str t.name), .t (.lst (t.implements.map sE)), .t (.lst (t.dirs.map Dir.enc)), .t (.lst (t.fields.map Field.enc)), .t (.lst (t.members.map Member.enc)), .t (.lst (t.inputs.map Input.enc))])), (1, (.cells [.t (.int .i64 0), .t (.str []), .nils, .nils, .nils, .nils, .nils])), (2, (.cells [.t (.int .i64 t.kind), .t (.str t.name), .t (.lst (t.implements.map sE)), .t (.lst ((pubF t.dirs).map Dir.enc)), .t (.lst ((t.fields.map bareF).map Field.enc)), .own 4 2 (B.map Member.enc), .nils])), (4, .arr B.length)], 5⟩ }) (fun r i B => B.length ≤ i ∧ B ++ r.map bareM = t.members.map bareM) 4 [] rfl ⟨by simp, rfl⟩ rfl rfl rfl ?_ ?_ (he := (by repeat' (first | exact trivial | exact LeX.t | exact LeX.top | exact LeX.nilOwn (Nat.le_of_ble_eq_true rfl) (Nat.le_of_ble_eq_true rfl) | exact LeX.ownT | exact LeX.nilT | exact LeX.same rfl | exact LeX.tEq (by simp) | exact LeX.ownEq (by simp) (Nat.le_of_ble_eq_true rfl) | exact LeX.tEq (by congr 1 <;> omega) | exact Or.inr ⟨Nat.le_of_ble_eq_true rfl, Nat.le_of_ble_eq_true rfl, rfl⟩ | refine Or.inl ⟨Nat.le_of_ble_eq_true rfl, _, rfl, ?_⟩ | refine LeO.cells ?_ | exact LeO.arr rfl | exact LeO.arr (by simp) | exact LeO.mE (by first | rfl | simp) (by first | exact Or.inl rfl | exact Or.inr rfl) | exact LeO.cE (by first | rfl | simp) | exact LeXs.cE (by first | rfl | simp) | refine LeO.map (by first | rfl | simp) ?_ (by first | exact Or.inl rfl | exact Or.inr rfl) | exact LeO.iter (by first | rfl | simp) (Nat.le_of_ble_eq_true rfl) | refine LeXs.cons ?_ ?_ | exact LeXs.nil | refine And.intro ?_ ?_))) (hs := (by repeat' (first | exact trivial | exact LeX.t | exact LeX.top | exact LeX.nilOwn (Nat.le_of_ble_eq_true rfl) (Nat.le_of_ble_eq_true rfl) | exact LeX.ownT | exact LeX.nilT | exact LeX.same rfl | exact LeX.tEq (by simp) | exact LeX.ownEq (by simp) (Nat.le_of_ble_eq_true rfl) | exact LeX.tEq (by congr 1 <;> omega) | exact Or.inr ⟨Nat.le_of_ble_eq_true rfl, Nat.le_of_ble_eq_true rfl, rfl⟩ | refine Or.inl ⟨Nat.le_of_ble_eq_true rfl, _, rfl, ?_⟩ | refine LeO.cells ?_ | exact LeO.arr rfl | exact LeO.arr (by simp) | exact LeO.mE (by first | rfl | simp) (by first | exact Or.inl rfl | exact Or.inr rfl) | exact LeO.cE (by first | rfl | simp) | exact LeXs.cE (by first | rfl | simp) | refine LeO.map (by first | rfl | simp) ?_ (by first | exact Or.inl rfl | exact Or.inr rfl) | exact LeO.iter (by first | rfl | simp) (Nat.le_of_ble_eq_true rfl) | refine LeXs.cons ?_ ?_ | exact LeXs.nil | refine And.intro ?_ ?_)))
    · rintro B ⟨_, hB⟩
      have hB' : B = t.members.map bareM := by rw [← hB]; simp
      subst hB'
      refine fR rfl ?_
      refine lM rfl rfl rfl ?_
      refine fM rfl ?_
      refine Run.condF rfl rfl (by simp) ?_
      refine fR rfl ?_
      refine apN Input.enc t.inputs rfl rfl rfl ?_ (h1 := by first | omega | (simp; omega) | (simp; done)) (h2 := by first | omega | (simp; omega) | (simp; done))
      refine fM rfl ?_
      refine Run.fin rfl (EndOk.go ?_); exact .agg (.cons (.t rfl) (.cons (.t rfl) (.cons (.t rfl) (.cons (.t rfl) (.cons (.t rfl) (.cons (.own rfl) (.cons (.own rfl) .nil)))))))
    · rintro i x r B h1 hi hdr ⟨hBl, hB⟩ ih
      have hBl' : B.length ≤ i := hBl
      have hx := ht.m x (List.mem_of_getElem? h1)
      refine fR rfl ?_
      refine lM rfl rfl rfl ?_
      refine fM rfl ?_
      refine Run.condT rfl rfl (by simp; omega) ?_
      refine fR rfl ?_
      refine Mid.elemMap rfl rfl rfl h1 rfl rfl ?_
      refine fM rfl ?_
      refine Mid.call (public_ok H x.dirs hx.d.len) rfl rfl rfl rfl ?_
      refine fM rfl ?_
      refine apM Member.enc B [bareM x] rfl rfl rfl rfl rfl ?_ (h1 := by first | omega | (simp; omega) | (simp; done)) (h2 := by first | omega | (simp; omega) | (simp; done))
      refine fM rfl ?_
      refine aL rfl rfl rfl rfl rfl ?_
      refine fM rfl ?_
      exact rWeak 5 rfl (ih (B ++ [bareM x]) ⟨by simp; omega, by rw [← hB]; simp⟩) rfl rfl rfl
  · rintro i x r B h1 hi hdr ⟨hBl, hB⟩ ih
    have hBl' : B.length ≤ i := hBl
    have hx := ht.f x (List.mem_of_getElem? h1)
    refine fR rfl ?_
    refine lM rfl rfl rfl ?_
    refine fM rfl ?_
    refine Run.condT rfl rfl (by simp; omega) ?_
    refine fR rfl ?_
    refine Mid.elemMap rfl rfl rfl h1 rfl rfl ?_
    refine fM rfl ?_
    refine Mid.call (public_ok H x.dirs hx.d.len) rfl rfl rfl rfl ?_
    refine fM rfl ?_
    refine apM Field.enc B [bareF x] rfl rfl rfl rfl rfl ?_ (h1 := by first | omega | (simp; omega) | (simp; done)) (h2 := by first | omega | (simp; omega) | (simp; done))
    refine fM rfl ?_
    refine aL rfl rfl rfl rfl rfl ?_
    refine fM rfl ?_
    exact rWeak 4 rfl (ih (B ++ [bareF x]) ⟨by simp; omega, by rw [← hB]; simp⟩) rfl rfl rfl

def tT : Str := [84]
def exD : Def := ⟨1, tT, [], [⟨[99, 111, 115, 116], []⟩], [], [], []⟩
theorem exD_ok : ∀ t, t ∈ [exD] → DefD t := by
  intro t h
  simp at h; subst h
  exact ⟨by decide, ⟨by decide, by intro d hd; simp [exD] at hd; subst hd; exact ⟨by decide, by decide, by simp⟩⟩, by decide, by simp [exD], by decide, by simp [exD], by decide, by simp [exD]⟩
theorem exD_chk : chkD [exD] = [⟨29, tT⟩] := by kernel_rfl
theorem ex12_ok (H : Pr23 P) : FnOk P 12 [] ⟨[], 0⟩ { v := .t (.bool true) } := by
  have h1 := dSet_ok H [105, 100, 32, 110, 97, 109, 101] (by decide) (by decide)
  rw [show setF [105, 100, 32, 110, 97, 109, 101] = ([[105, 100], [110, 97, 109, 101]], 0) by kernel_rfl] at h1
  have h2 := chk_ok H [exD] (by decide) exD_ok (by rw [exD_chk]; decide)
  rw [exD_chk] at h2
  have h3 := faults_ok H.toPr [⟨29, tT⟩] [⟨29, tT⟩] (by decide) (by decide)
  rw [decide_eq_true rfl] at h3
  have h4 := hasD_ok H 25 [⟨[98], []⟩] (by decide) [98] (.inl rfl)
  rw [show hasD [98] [⟨[98], []⟩] = true by rfl] at h4
  dsimp only at h1
  refine FnOk.run H.i12 H.mixed rfl rfl ?_
  refine fR rfl ?_
  refine Mid.call h1 rfl rfl rfl rfl ?_
  refine Mid.fast (f := 5) rfl trivial ?_
  refine Mid.done0 rfl ?_
  refine Run.fast (f := 8) rfl trivial ?_
  refine Mid.done0 rfl ?_
  refine rWeakC 3 rfl (st' := { env := [(1, .t (.lst ([[105, 100], [110, 97, 109, 101]].map sE))), (2, .t (.int .i64 0)), (3, .ptr 2 0)], s := ⟨[(2, .cells [.t (.lst ([exD].map Def.enc))])], 3⟩ }) ?_ rfl rfl rfl
  refine fR rfl ?_
  refine lMG rfl rfl rfl rfl ?_
  refine fM rfl ?_
  refine gr rfl ?_
  refine fM rfl ?_
  refine Mid.ungd rfl rfl rfl ?_
  refine Mid.call (h2) rfl rfl rfl rfl ?_
  refine fM rfl ?_
  refine Mid.ungd rfl rfl rfl ?_
  refine Mid.bslP rfl rfl rfl ?_
  skip
  refine Mid.ungd rfl rfl rfl ?_
  refine Mid.call (h3) rfl rfl rfl rfl ?_
  refine fM rfl ?_
  refine Mid.ungd rfl rfl rfl ?_
  refine Mid.bslP rfl rfl rfl ?_
  skip
  refine Mid.ungd rfl rfl rfl ?_
  refine Mid.call (h4) rfl rfl rfl rfl ?_
  refine fM rfl ?_
  refine Run.fin rfl (EndOk.go ?_); exact .t rfl

end Go.GB.C23


/-
  F23M: chapter 23's functions: the law of the directives that do not concern subgraphs.
-/
namespace Go.GB.C23
open Go.GB Go.GB.C11
set_option linter.unusedSimpArgs false
set_option linter.unusedVariables false
set_option maxRecDepth 100000
set_option maxHeartbeats 4000000
variable {P : Program}

theorem pubF_ok {l : List Dir} (h : DsOk l) : DsOk (pubF l) :=
  ⟨Nat.le_trans (List.length_filter_le ..) h.len, fun d hd => h.all d (List.mem_filter.1 hd).1⟩
theorem bareF_ok {f : Field} (h : FldD f) : FldD (bareF f) := ⟨h.nm, pubF_ok h.d, h.al, h.a⟩
theorem bareM_ok {f : Member} (h : MemD f) : MemD (bareM f) := ⟨h.nm, pubF_ok h.d⟩
theorem bareD_ok {t : Def} (h : DefD t) : DefD (bareD t) := by
  refine ⟨h.nm, pubF_ok h.d, by show (t.fields.map bareF).length ≤ _; rw [List.length_map]; exact h.fl, fun x hx => ?_, by show (t.members.map bareM).length ≤ _; rw [List.length_map]; exact h.ml, fun x hx => ?_, h.il, h.i⟩
  · obtain ⟨y, hy, rfl⟩ := List.mem_map.1 (show x ∈ t.fields.map bareF from hx)
    exact bareF_ok (h.f y hy)
  · obtain ⟨y, hy, rfl⟩ := List.mem_map.1 (show x ∈ t.members.map bareM from hx)
    exact bareM_ok (h.m y hy)

theorem public23_ok (H : Pr23 P) (ds : List Def) (hD0 : DocOk ds) (hdl : ds.length ≤ 549755813888) (hD : ∀ t, t ∈ ds → DefD t) (hl : (chkD ds).length ≤ 2199023255552) (l : List Dir) (hll : l.length ≤ 2199023255552) : FnOk P 6 [docV ds, .t (.lst (l.map Dir.enc))] ⟨[], 0⟩ { v := .t (.bool true) } := by
  refine FnOk.run H.i6 H.mixed rfl rfl ?_
  refine fR rfl ?_
  refine Mid.call (large_ok H.toPr ds hD0) rfl rfl rfl rfl ?_
  refine fM rfl ?_
  refine lMG rfl rfl rfl rfl ?_
  refine fM rfl ?_
  refine Run.cond rfl rfl (fun h => ?_) (fun h => ?_)
  · refine fR rfl ?_
    refine Mid.call (ex12_ok H) rfl rfl rfl rfl ?_
    refine fM rfl ?_
    refine Run.fin rfl (EndOk.go ?_); exact .t rfl
  · refine fR rfl ?_
    refine Mid.call (public_ok H l hll) rfl rfl rfl rfl ?_
    refine fM rfl ?_
    refine Mid.call (rPublic_ok H l hll) rfl rfl rfl rfl ?_
    refine fM rfl ?_
    refine lM rfl rfl rfl ?_
    refine fM rfl ?_
    refine lM rfl rfl rfl ?_
    refine fM rfl ?_
    refine Run.condF rfl rfl (by simp) ?_
    refine fR rfl ?_
    have hpl : (pubF l).length ≤ 2199023255552 := Nat.le_trans (List.length_filter_le ..) hll
    generalize pubF l = p at hpl
    refine rList p (fun i (_ : Unit) => { env := [(2, .ptr 0 0), (5, .t (.lst (p.map Dir.enc))), (6, .t (.lst (p.map Dir.enc))), (7, .t (.int .i64 i))], s := ⟨[(0, .cells [.t (.lst (ds.map Def.enc))])], 1⟩ }) (fun r i _ => True) 1 () rfl trivial rfl rfl rfl ?_ ?_
    · rintro _ _
      refine fR rfl ?_
      refine lM rfl rfl rfl ?_
      refine fM rfl ?_
      refine Run.condF rfl rfl (by simp) ?_
      refine fR rfl ?_
      refine Mid.call (chk_ok H ds (by omega) hD hl) rfl rfl rfl rfl ?_
      refine lM rfl rfl rfl ?_
      refine fM rfl ?_
      refine Run.cond rfl rfl (fun hc => ?_) (fun hc => ?_)
      · refine fR rfl ?_
        refine Mid.call (ex12_ok H) rfl rfl rfl rfl ?_
        refine fM rfl ?_
        refine Run.fin rfl (EndOk.go ?_); exact .t rfl
      · have hc0 : chkD ds = [] := by
          have : (chkD ds).length = 0 := by simp at hc; simp [hc]
          exact List.length_eq_zero_iff.1 this
        have h5 := chk_ok H (ds.map bareD) (by simp; omega) (fun t ht => by obtain ⟨y, hy, rfl⟩ := List.mem_map.1 ht; exact bareD_ok (hD y hy)) (by rw [chk_pub hc0]; decide)
        rw [chk_pub hc0] at h5
        refine fR rfl ?_
        refine rList ds (fun i (B : List Def) => { env := [(2, .ptr 0 0), (8, .ptr 1 0), (9, .t (.int .i64 i))], s := ⟨[(0, .cells [.t (.lst (ds.map Def.enc))]), (1, .cells [.own 2 7 (B.map Def.enc)]), (2, .arr B.length)], 3⟩ }) (fun r i B => B.length ≤ i ∧ B ++ r.map bareD = ds.map bareD) 2 [] rfl ⟨by simp, rfl⟩ rfl rfl rfl ?_ ?_ (he := (by repeat' (first | exact trivial | exact LeX.t | exact LeX.top | exact LeX.nilOwn (Nat.le_of_ble_eq_true rfl) (Nat.le_of_ble_eq_true rfl) | exact LeX.ownT | exact LeX.nilT | exact LeX.same rfl | exact LeX.tEq (by simp) | exact LeX.ownEq (by simp) (Nat.le_of_ble_eq_true rfl) | exact LeX.tEq (by congr 1 <;> omega) | exact Or.inr ⟨Nat.le_of_ble_eq_true rfl, Nat.le_of_ble_eq_true rfl, rfl⟩ | refine Or.inl ⟨Nat.le_of_ble_eq_true rfl, _, rfl, ?_⟩ | refine LeO.cells ?_ | exact LeO.arr rfl | exact LeO.arr (by simp) | exact LeO.mE (by first | rfl | simp) (by first | exact Or.inl rfl | exact Or.inr rfl) | exact LeO.cE (by first | rfl | simp) | exact LeXs.cE (by first | rfl | simp) | refine LeO.map (by first | rfl | simp) ?_ (by first | exact Or.inl rfl | exact Or.inr rfl) | exact LeO.iter (by first | rfl | simp) (Nat.le_of_ble_eq_true rfl) | refine LeXs.cons ?_ ?_ | exact LeXs.nil | refine And.intro ?_ ?_))) (hs := (by repeat' (first | exact trivial | exact LeX.t | exact LeX.top | exact LeX.nilOwn (Nat.le_of_ble_eq_true rfl) (Nat.le_of_ble_eq_true rfl) | exact LeX.ownT | exact LeX.nilT | exact LeX.same rfl | exact LeX.tEq (by simp) | exact LeX.ownEq (by simp) (Nat.le_of_ble_eq_true rfl) | exact LeX.tEq (by congr 1 <;> omega) | exact Or.inr ⟨Nat.le_of_ble_eq_true rfl, Nat.le_of_ble_eq_true rfl, rfl⟩ | refine Or.inl ⟨Nat.le_of_ble_eq_true rfl, _, rfl, ?_⟩ | refine LeO.cells ?_ | exact LeO.arr rfl | exact LeO.arr (by simp) | exact LeO.mE (by first | rfl | simp) (by first | exact Or.inl rfl | exact Or.inr rfl) | exact LeO.cE (by first | rfl | simp) | exact LeXs.cE (by first | rfl | simp) | refine LeO.map (by first | rfl | simp) ?_ (by first | exact Or.inl rfl | exact Or.inr rfl) | exact LeO.iter (by first | rfl | simp) (Nat.le_of_ble_eq_true rfl) | refine LeXs.cons ?_ ?_ | exact LeXs.nil | refine And.intro ?_ ?_)))
        · rintro B ⟨_, hB⟩
          have hB' : B = ds.map bareD := by rw [← hB]; simp
          subst hB'
          refine rWeakC 2 rfl (st' := { env := [(2, .ptr 0 0), (8, .ptr 1 0), (9, .t (.int .i64 ds.length))], s := ⟨[(0, .cells [.t (.lst (ds.map Def.enc))]), (1, .cells [.t (.lst ((ds.map bareD).map Def.enc))])], 2⟩ }) ?_ rfl rfl rfl
          refine fR rfl ?_
          refine lM rfl rfl rfl ?_
          refine fM rfl ?_
          refine Run.condF rfl rfl (by simp) ?_
          refine fR rfl ?_
          refine Mid.call (h5) rfl rfl rfl rfl ?_
          refine lM rfl rfl rfl ?_
          refine fM rfl ?_
          refine caG rfl rfl (fun hg => ⟨_, rfl, ex12_ok H, rfl⟩) rfl rfl ?_
          refine fM rfl ?_
          refine Run.fin rfl (EndOk.go ?_); exact .t rfl
        · rintro i x r B h1 hi hdr ⟨hBl, hB⟩ ih
          have hBl' : B.length ≤ i := hBl
          have hx := hD x (List.mem_of_getElem? h1)
          refine fR rfl ?_
          refine lM rfl rfl rfl ?_
          refine fM rfl ?_
          refine Run.condT rfl rfl (by simp; omega) ?_
          refine fR rfl ?_
          refine Mid.elemMap rfl rfl rfl h1 rfl rfl ?_
          refine fM rfl ?_
          refine Mid.call (bare_ok H x hx) rfl rfl rfl rfl ?_
          refine fM rfl ?_
          refine apM Def.enc B [bareD x] rfl rfl rfl rfl rfl ?_ (h1 := by first | omega | (simp; omega) | (simp; done)) (h2 := by first | omega | (simp; omega) | (simp; done))
          refine fM rfl ?_
          refine aL rfl rfl rfl rfl rfl ?_
          refine fM rfl ?_
          exact rWeak 3 rfl (ih (B ++ [bareD x]) ⟨by simp; omega, by rw [← hB]; simp⟩) rfl rfl rfl
    · rintro i x r _ h1 hi hdr _ ih
      refine fR rfl ?_
      refine lM rfl rfl rfl ?_
      refine fM rfl ?_
      refine Run.condT rfl rfl (by simp; omega) ?_
      refine fR rfl ?_
      refine Mid.elemMap rfl rfl rfl h1 rfl rfl ?_
      refine fM rfl ?_
      refine Mid.elemMap rfl rfl rfl h1 rfl rfl ?_
      refine fM rfl ?_
      refine elG rfl rfl rfl rfl h1 rfl rfl ?_
      refine fM rfl ?_
      refine lMG rfl rfl rfl rfl ?_
      refine fM rfl ?_
      refine elG rfl rfl rfl rfl h1 rfl rfl ?_
      refine fM rfl ?_
      refine lMG rfl rfl rfl rfl ?_
      refine fM rfl ?_
      refine Run.condF rfl rfl (by simp) ?_
      refine fR rfl ?_
      refine aL rfl rfl rfl rfl rfl ?_
      refine fM rfl ?_
      exact rWeak 1 rfl (ih () trivial) rfl rfl rfl
end Go.GB.C23


/-
  F23N: what the bulk of a document says of its directives.
-/
namespace Go.GB.C23
open Go.GB Go.GB.C11

theorem mem_bulk {α : Type} {f : α → List T} : ∀ {l : List α} {x : α}, x ∈ l → bulkL (f x) ≤ bulkLL (l.map f)
  | y :: r, x, h => by
    simp only [List.map_cons, bulkLL]
    rcases List.mem_cons.1 h with rfl | h
    · omega
    · have := mem_bulk (f := f) h; omega
theorem len_bulk {α : Type} {f : α → List T} (h : ∀ x, 1 ≤ bulkL (f x)) : ∀ l : List α, l.length ≤ bulkLL (l.map f)
  | [] => by simp
  | y :: r => by
    have := len_bulk h r
    have := h y
    simp only [List.map_cons, bulkLL, List.length_cons]; omega
theorem dir_b (d : Dir) : 1 ≤ bulkL d.enc := by simp only [Dir.enc, bulkL, T.bulk]; omega
theorem dirs_b (l : List Dir) : l.length ≤ bulkLL (l.map Dir.enc) := len_bulk dir_b l
theorem dok_of {d : Dir} (ho : d.Ok) (hb : bulkL d.enc ≤ 1048576) : DOk d := by
  refine ⟨ho.l, ho.nm, fun a ha => ?_⟩
  have h1 := mem_bulk (f := Arg.enc) ha
  simp only [Dir.enc, bulkL, T.bulk] at hb
  simp only [Arg.enc, bulkL, T.bulk] at h1
  exact ⟨by omega, ho.a a ha, by omega⟩
theorem dsok_of {l : List Dir} (ho : ∀ d, d ∈ l → d.Ok) (hb : bulkLL (l.map Dir.enc) ≤ 1048576) : DsOk l :=
  ⟨by have := dirs_b l; omega, fun d hd => dok_of (ho d hd) (by have := mem_bulk (f := Dir.enc) hd; omega)⟩
theorem inpD_of {a : Input} (ho : a.Ok) (hb : bulkL a.enc ≤ 1048576) : InpD a := by
  simp only [Input.enc, bulkL, T.bulk] at hb
  exact ⟨ho.nm, dsok_of ho.d (by omega)⟩
theorem fldD_of {a : Field} (ho : a.Ok) (hb : bulkL a.enc ≤ 1048576) : FldD a := by
  simp only [Field.enc, bulkL, T.bulk] at hb
  exact ⟨ho.nm, dsok_of ho.d (by omega), ho.al, fun x hx => inpD_of (ho.a x hx) (by have := mem_bulk (f := Input.enc) hx; omega)⟩
theorem memD_of {a : Member} (ho : a.Ok) (hb : bulkL a.enc ≤ 1048576) : MemD a := by
  simp only [Member.enc, bulkL, T.bulk] at hb
  exact ⟨ho.nm, dsok_of ho.d (by omega)⟩
theorem inp_b (d : Input) : 1 ≤ bulkL d.enc := by simp only [Input.enc, bulkL, T.bulk]; omega
theorem fld_b (d : Field) : 1 ≤ bulkL d.enc := by simp only [Field.enc, bulkL, T.bulk]; omega
theorem mem_b (d : Member) : 1 ≤ bulkL d.enc := by simp only [Member.enc, bulkL, T.bulk]; omega
theorem def_b (d : Def) : 1 ≤ bulkL d.enc := by simp only [Def.enc, bulkL, T.bulk]; omega
theorem defD_of {a : Def} (ho : a.Ok) (hb : bulkL a.enc ≤ 1048576) : DefD a := by
  simp only [Def.enc, bulkL, T.bulk] at hb
  have h1 := len_bulk fld_b a.fields
  have h2 := len_bulk mem_b a.members
  have h3 := len_bulk inp_b a.inputs
  exact ⟨by omega, dsok_of ho.d (by omega), by omega, fun x hx => fldD_of (ho.f x hx) (by have := mem_bulk (f := Field.enc) hx; omega), by omega, fun x hx => memD_of (ho.m x hx) (by have := mem_bulk (f := Member.enc) hx; omega), by omega, fun x hx => inpD_of (ho.n x hx) (by have := mem_bulk (f := Input.enc) hx; omega)⟩
theorem docD_of {ds : List Def} (ho : DocOk ds) (hb : bulkLL (ds.map Def.enc) ≤ 1048576) : ∀ t, t ∈ ds → DefD t :=
  fun t ht => defD_of (ho.d t ht) (by have := mem_bulk (f := Def.enc) ht; omega)
theorem docL_of {ds : List Def} (hb : bulkLL (ds.map Def.enc) ≤ 1048576) : ds.length ≤ 1048576 := by
  have := len_bulk def_b ds; omega
theorem argL_len (s : Str) : ∀ l : List Input, (argL s l).length ≤ bulkLL (l.map Input.enc)
  | [] => by simp [argL]
  | a :: r => by
    have h1 := argL_len s r
    have h2 := usesF_len 0 (s ++ [40] ++ a.name ++ [41]) a.dirs []
    have h3 := dirs_b a.dirs
    simp only [argL, List.length_append, List.map_cons, bulkLL, Input.enc, bulkL, T.bulk] at h1 ⊢; omega
theorem fldL_len (s : Str) (pl : Int) : ∀ l : List Field, (fldL s pl l).length ≤ bulkLL (l.map Field.enc)
  | [] => by simp [fldL]
  | a :: r => by
    have h1 := fldL_len s pl r
    have h2 := usesF_len pl (s ++ [46] ++ a.name) a.dirs []
    have h3 := dirs_b a.dirs
    have h4 := argL_len (s ++ [46] ++ a.name) a.args
    simp only [fldL, List.length_append, List.map_cons, bulkLL, Field.enc, bulkL, T.bulk] at h1 ⊢; omega
theorem memL_len (s : Str) (pl : Int) : ∀ l : List Member, (memL s pl l).length ≤ bulkLL (l.map Member.enc)
  | [] => by simp [memL]
  | a :: r => by
    have h1 := memL_len s pl r
    have h2 := usesF_len pl (s ++ [46] ++ a.name) a.dirs []
    have h3 := dirs_b a.dirs
    simp only [memL, List.length_append, List.map_cons, bulkLL, Member.enc, bulkL, T.bulk] at h1 ⊢; omega
theorem inpL_len (s : Str) : ∀ l : List Input, (inpL s l).length ≤ bulkLL (l.map Input.enc)
  | [] => by simp [inpL]
  | a :: r => by
    have h1 := inpL_len s r
    have h2 := usesF_len 0 (s ++ [46] ++ a.name) a.dirs []
    have h3 := dirs_b a.dirs
    simp only [inpL, List.length_append, List.map_cons, bulkLL, Input.enc, bulkL, T.bulk] at h1 ⊢; omega
theorem partL_len (t : Def) : (partL t).length ≤ bulkLL (t.fields.map Field.enc) + bulkLL (t.members.map Member.enc) + bulkLL (t.inputs.map Input.enc) := by
  have h1 := fldL_len t.name 4 t.fields
  have h2 := fldL_len t.name 8 t.fields
  have h3 := memL_len t.name 0 t.members
  have h4 := memL_len t.name 16 t.members
  have h5 := inpL_len t.name t.inputs
  unfold partL
  split
  · omega
  · split
    · omega
    · split
      · omega
      · split
        · omega
        · split
          · omega
          · simp
theorem chkD_len : ∀ ds : List Def, (chkD ds).length ≤ bulkLL (ds.map Def.enc)
  | [] => by simp [chkD]
  | t :: r => by
    have h1 := chkD_len r
    have h2 := partL_len t
    have h3 := usesF_len (ownP t.kind) t.name t.dirs []
    have h4 := dirs_b t.dirs
    simp only [chkD, defL, List.length_append, List.map_cons, bulkLL, Def.enc, bulkL, T.bulk] at h1 ⊢; omega
end Go.GB.C23


/-
  F23P: the laws of directives, for documents of bounded bulk.
-/
namespace Go.GB.C23
open Go.GB Go.GB.C11
variable {P : Program}
theorem public23U_ok (H : Pr23 P) (ds : List Def) (ho : DocOk ds) (l : List Dir) (hb : bulkLL (ds.map Def.enc) + bulkLL (l.map Dir.enc) ≤ 1048576) : FnOk P 6 [docV ds, .t (.lst (l.map Dir.enc))] ⟨[], 0⟩ { v := .t (.bool true) } := by
  have h1 := chkD_len ds
  have h2 := docL_of (ds := ds) (by omega)
  have h3 := dirs_b l
  exact public23_ok H ds ho (by omega) (docD_of ho (by omega)) (by omega) l (by omega)
end Go.GB.C23


/-
  D11R: shapes of chapter 11's arguments.
-/
namespace Go.GB.C11
open Go.GB

theorem spV_ok {P : Program} {vt : TypeId} (hb : P.bytesOf vt = 80) (hs : shOf P (spV vt) 6 vt = some valSh) :
    ∀ e i n xs, spV vt e = some i → xs.length * P.bytesOf e ≤ reachBytes → xs.length ≤ maxLen → (∀ c ∈ xs, WT P n e c) → YA i (.lst xs) := by
  have hv := val_wt hb hs
  intro e i k xs he hr hl hc
  have := reach_le
  unfold spV at he
  split at he
  · rename_i e1; subst e1
    simp only [Option.some.injEq] at he; subst he
    obtain ⟨l, rfl, h3⟩ := choose_map (f := Val.enc) (Q := Val.Ok) xs fun c hcm => hv k c (hc c hcm)
    rw [hb] at hr
    exact ⟨l, rfl, by unfold B47; simp at hr; omega, h3⟩
  · cases he
end Go.GB.C11


/-
  F25A: moves: sets of fields that directives name; keys of types.
-/
namespace Go.GB.C23
open Go.GB Go.GB.C11
set_option linter.unusedSimpArgs false
set_option linter.unusedVariables false
set_option maxRecDepth 100000
set_option maxHeartbeats 4000000
structure Pr25 (P : Program) : Prop extends Pr23 P where
  i64 : fnInfo P 64 = some (n64, c64.bare, r64)

variable {P : Program}

/- what is said of the texts of values -/
/-- directives of a document of bounded bulk -/
structure DK (ds : List Dir) : Prop where
  l : ds.length ≤ 1048576
  d : ∀ d, d ∈ ds → DOk d
theorem DK.len {l : List Dir} (h : DK l) : l.length ≤ 140737488355328 := by have := h.l; omega
/-- the set of fields of the first use of a directive -/
def setM (l : List Dir) (n : Str) : List Str := (setF ((argD n ([102, 105, 101, 108, 100, 115] : Str) l).getD Val.zero).text).1
/- keys -/
def keysD : List Dir → List (List Str)
  | [] => []
  | d :: r => (if d.name = ([107, 101, 121] : Str) then [setM [d] ([107, 101, 121] : Str)] else []) ++ keysD r
/- a field of a key -/
def isKeyM (l : List Dir) (f : Str) : Bool := (keysD l).any fun k => decide (f ∈ k)
end Go.GB.C23


/-
  F25B: moves: leaf types, fields that graphs resolve, fields that are external.
-/
namespace Go.GB.C23
open Go.GB Go.GB.C11
set_option linter.unusedSimpArgs false
set_option linter.unusedVariables false
set_option maxRecDepth 100000
set_option maxHeartbeats 4000000
variable {P : Program}

structure Graph where
  name : Str
  doc : List Def
def Graph.enc (g : Graph) : List T := [.str g.name, .lst (g.doc.map Def.enc)]
def Graph.v (g : Graph) : V := .agg [.t (.str g.name), .t (.lst (g.doc.map Def.enc))]

structure FK (x : Field) : Prop where
  d : DK x.dirs
  al : x.args.length ≤ 140737488355328
  w : x.ty.wraps.length ≤ 140737488355328
  nm : x.name.length ≤ 140737488355328
structure TK (t : Def) : Prop where
  d : DK t.dirs
  fl : t.fields.length ≤ 1048576
  f : ∀ x, x ∈ t.fields → FK x
  nm : t.name.length ≤ 140737488355328
structure GK (ds : List Def) : Prop where
  ok : DocOk ds
  l : ds.length ≤ 1048576
  t : ∀ t, t ∈ ds → TK t
theorem DK.nil : DK [] := ⟨by decide, by simp⟩
theorem FK.zero : FK Field.zero := ⟨DK.nil, by decide, by decide, by decide⟩
theorem TK.zero : TK Def.zero := ⟨DK.nil, by decide, by simp [Def.zero], by decide⟩
theorem GK.find {ds : List Def} (h : GK ds) (n : Str) : TK ((findDef n ds).getD Def.zero) := by
  cases hf : findDef n ds with
  | none => exact TK.zero
  | some t => exact h.t t (findDef_mem hf)
theorem TK.field {t : Def} (h : TK t) (n : Str) : FK ((findField n t.fields).getD Field.zero) := by
  cases hf : findField n t.fields with
  | none => exact FK.zero
  | some t => exact h.f t (findField_mem hf)
theorem GK.len {ds : List Def} (h : GK ds) : ds.length ≤ 140737488355328 := h.ok.l

def kindM (ds : List Def) (n : Str) : Int := ((findDef n ds).getD Def.zero).kind
def leafM (ds : List Def) (n : Str) : Bool := scalF n || kindM ds n == 4
def resM (ds : List Def) (n f : Str) : Bool :=
  (((findDef n ds).isSome && (findField f ((findDef n ds).getD Def.zero).fields).isSome) && ((findDef n ds).getD Def.zero).kind == 1) && !hasD ([101, 120, 116, 101, 114, 110, 97, 108] : Str) ((findField f ((findDef n ds).getD Def.zero).fields).getD Field.zero).dirs
def othM (a : Nat) (n f : Str) : Nat → List Graph → Bool
  | _, [] => false
  | i, g :: r => (((i : Int) != (a : Int)) && resM g.doc n f) || othM a n f (i + 1) r
/-- a name that is not an external field without arguments, of a leaf type -/
def outB (ds : List Def) (t : Def) (n : Str) : Bool :=
  ((!(findField n t.fields).isSome || !hasD ([101, 120, 116, 101, 114, 110, 97, 108] : Str) ((findField n t.fields).getD Field.zero).dirs) || decide ((((findField n t.fields).getD Field.zero).args.length : Int) > 0)) || !leafM ds ((findField n t.fields).getD Field.zero).ty.name
def outM (ds : List Def) (t : Def) (l : List Str) : Bool := !l.any (outB ds t) && decide ((l.length : Int) > 0)
end Go.GB.C23


/-
  F25C: moves: fields that are mentioned in a graph, and fields that graphs lean on.
-/
namespace Go.GB.C23
open Go.GB Go.GB.C11
set_option linter.unusedSimpArgs false
set_option linter.unusedVariables false
set_option maxRecDepth 100000
set_option maxHeartbeats 4000000
variable {P : Program}

/-- a field that another one requires -/
def reqM (f : Str) (l : List Field) : Bool := l.any fun x => decide (f ∈ setM x.dirs ([114, 101, 113, 117, 105, 114, 101, 115] : Str))
/-- does a graph lean on a field? -/
def leaG (n f : Str) (g : Graph) : Bool := !(((findDef n g.doc).getD Def.zero).kind != 1) && (isKeyM ((findDef n g.doc).getD Def.zero).dirs f || reqM f ((findDef n g.doc).getD Def.zero).fields)
/-- a field of a type that another field of that type provides -/
def prvM (f : Str) (n : Str) (k : Int) (y : Field) : Bool := (k == 1 && y.ty.name == n) && decide (f ∈ setM y.dirs ([112, 114, 111, 118, 105, 100, 101, 115] : Str))
def menM (ds : List Def) (t : Def) (f : Str) : Bool := isKeyM t.dirs f || (reqM f t.fields || ds.any fun x => x.fields.any (prvM f t.name x.kind))
end Go.GB.C23


/-
  F25D: moves: violations of keys.
-/
namespace Go.GB.C23
open Go.GB Go.GB.C11
set_option linter.unusedSimpArgs false
set_option linter.unusedVariables false
set_option maxRecDepth 100000
set_option maxHeartbeats 4000000
variable {P : Program}

def ifM (c : Bool) (x : Fault) : List Fault := if c then [x] else []
/- keys -/
def rootB (n : Str) : Bool := (n == [81, 117, 101, 114, 121] || n == [77, 117, 116, 97, 116, 105, 111, 110]) || n == [83, 117, 98, 115, 99, 114, 105, 112, 116, 105, 111, 110]
/-- a type that is not null, of a leaf type -/
def plainM (ds : List Def) (x : Field) : Bool := (match x.ty.wraps with | [w] => w == 1 | _ => false) && leafM ds x.ty.name
def keyN (ds : List Def) (t : Def) (b : Bool) (n : Str) : Bool :=
  ((b || !(findField n t.fields).isSome) || decide ((((findField n t.fields).getD Field.zero).args.length : Int) > 0)) || !plainM ds ((findField n t.fields).getD Field.zero)
def keyB (ds : List Def) (t : Def) (i : Nat) (k : List Str) : Bool := k.foldl (keyN ds t) ((decide ((i : Int) ≥ 4) || rootB t.name) || ((k.length : Int) == 0))
def keyL (g : Graph) (t : Def) : Nat → List (List Str) → List Fault
  | _, [] => []
  | i, k :: r => ifM (keyB g.doc t i k) ⟨41, g.name ++ [58] ++ t.name⟩ ++ keyL g t (i + 1) r
end Go.GB.C23


/-
  F25E: moves: violations of fields.
-/
namespace Go.GB.C23
open Go.GB Go.GB.C11
set_option linter.unusedSimpArgs false
set_option linter.unusedVariables false
set_option maxRecDepth 100000
set_option maxHeartbeats 4000000
variable {P : Program}

def placeM (g : Graph) (t : Def) (x : Field) : Str := g.name ++ [58] ++ (t.name ++ [46] ++ x.name)
def c1M (gs : List Graph) (a : Nat) (g : Graph) (t : Def) (x : Field) : Bool := hasD ([101, 120, 116, 101, 114, 110, 97, 108] : Str) x.dirs && (!menM g.doc t x.name || !othM a t.name x.name 0 gs)
def c2M (gs : List Graph) (g : Graph) (t : Def) (x : Field) : Bool := hasD ([114, 101, 113, 117, 105, 114, 101, 115] : Str) x.dirs && (((hasD ([101, 120, 116, 101, 114, 110, 97, 108] : Str) x.dirs || gs.any (leaG t.name x.name)) || (((keysD t.dirs).length : Int) == 0)) || !outM g.doc t (setM x.dirs ([114, 101, 113, 117, 105, 114, 101, 115] : Str)))
def c3M (g : Graph) (x : Field) : Bool := (!(findDef x.ty.name g.doc).isSome || ((findDef x.ty.name g.doc).getD Def.zero).kind != 1) || !outM g.doc ((findDef x.ty.name g.doc).getD Def.zero) (setM x.dirs ([112, 114, 111, 118, 105, 100, 101, 115] : Str))
def c4M (gs : List Graph) (a : Nat) (t : Def) (x : Field) : Bool := (!hasD ([101, 120, 116, 101, 114, 110, 97, 108] : Str) x.dirs && othM a t.name x.name 0 gs) && (hasD ([114, 101, 113, 117, 105, 114, 101, 115] : Str) x.dirs || !(hasD ([115, 104, 97, 114, 101, 97, 98, 108, 101] : Str) x.dirs || isKeyM t.dirs x.name))
def fieldF (gs : List Graph) (a : Nat) (g : Graph) (t : Def) (x : Field) : List Fault :=
  ifM (c1M gs a g t x) ⟨42, placeM g t x⟩ ++ (ifM (c2M gs g t x) ⟨43, placeM g t x⟩ ++ ((if hasD ([112, 114, 111, 118, 105, 100, 101, 115] : Str) x.dirs = true then ifM (c3M g x) ⟨44, placeM g t x⟩ else []) ++ ifM (c4M gs a t x) ⟨40, placeM g t x⟩))
end Go.GB.C23


/-
  F25F: moves: keys and joins of graphs.
-/
namespace Go.GB.C23
open Go.GB Go.GB.C11
set_option linter.unusedSimpArgs false
set_option linter.unusedVariables false
set_option maxRecDepth 100000
set_option maxHeartbeats 4000000
variable {P : Program}

structure KeyO where
  ty : Str
  graph : Int
  fields : List Str
def KeyO.enc (k : KeyO) : List T := [.str k.ty, .int .i64 k.graph, .lst (k.fields.map sE)]
structure Jn where
  ty : Str
  field : Str
  graph : Int
  ext : Bool
  req : List Str
  prov : List Str
def Jn.enc (j : Jn) : List T := [.str j.ty, .str j.field, .int .i64 j.graph, .bool j.ext, .lst (j.req.map sE), .lst (j.prov.map sE)]
structure Acc where
  k : List KeyO
  j : List Jn
  b : List Fault

def keyOf (i : Nat) (t : Def) (k : List Str) : KeyO := ⟨t.name, i, k⟩
def jnOf (i : Nat) (t : Def) (x : Field) : Jn := ⟨t.name, x.name, i, hasD ([101, 120, 116, 101, 114, 110, 97, 108] : Str) x.dirs, setM x.dirs ([114, 101, 113, 117, 105, 114, 101, 115] : Str), setM x.dirs ([112, 114, 111, 118, 105, 100, 101, 115] : Str)⟩
def kDef (i : Nat) (t : Def) : List KeyO := if t.kind = 1 then (keysD t.dirs).map (keyOf i t) else []
def jDef (i : Nat) (t : Def) : List Jn := if t.kind = 1 then t.fields.map (jnOf i t) else []
def fL (gs : List Graph) (i : Nat) (g : Graph) (t : Def) : List Field → List Fault
  | [] => []
  | x :: r => fieldF gs i g t x ++ fL gs i g t r
def bDef (gs : List Graph) (i : Nat) (g : Graph) (t : Def) : List Fault := if t.kind = 1 then keyL g t 0 (keysD t.dirs) ++ fL gs i g t t.fields else []
def kDefs (i : Nat) : List Def → List KeyO
  | [] => []
  | t :: r => kDef i t ++ kDefs i r
def jDefs (i : Nat) : List Def → List Jn
  | [] => []
  | t :: r => jDef i t ++ jDefs i r
def bDefs (gs : List Graph) (i : Nat) (g : Graph) : List Def → List Fault
  | [] => []
  | t :: r => bDef gs i g t ++ bDefs gs i g r
def kAll : Nat → List Graph → List KeyO
  | _, [] => []
  | i, g :: r => kDefs i g.doc ++ kAll (i + 1) r
def jAll : Nat → List Graph → List Jn
  | _, [] => []
  | i, g :: r => jDefs i g.doc ++ jAll (i + 1) r
def bAll (gs : List Graph) : Nat → List Graph → List Fault
  | _, [] => []
  | i, g :: r => bDefs gs i g g.doc ++ bAll gs (i + 1) r
structure JoinsB (gs : List Graph) : Prop where
  l : gs.length ≤ 140737488355328
  g : ∀ g, g ∈ gs → GK g.doc
  n : ∀ g, g ∈ gs → g.name.length ≤ 140737488355328
  k : (kAll 0 gs).length ≤ 549755813888
  j : (jAll 0 gs).length ≤ 549755813888
  b : (bAll gs 0 gs).length ≤ 549755813888

end Go.GB.C23


/-
  F25J: shapes of graphs and supergraphs, as laws are handed them.
-/
namespace Go.GB.C23
open Go.GB Go.GB.C11
set_option linter.unusedSimpArgs false
set_option linter.unusedVariables false

theorem dirs_sh0 {c : List T} (h : Sh.oks YA [.lst 40 dirSh] c) : ∃ l : List Dir, c = [.lst (l.map Dir.enc)] ∧ l.length ≤ 140737488355328 ∧ ∀ d, d ∈ l → d.Ok := by
  obtain ⟨x, c, rfl, hx, g⟩ := Sh.oks_cons h
  obtain rfl := Sh.oks_nil g
  obtain ⟨l, rfl, h1, h2⟩ := dirs_sh (by decide) hx
  exact ⟨l, rfl, h1, h2⟩
end Go.GB.C23

