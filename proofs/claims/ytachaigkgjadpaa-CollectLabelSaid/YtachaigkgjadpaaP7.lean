/-
  YtachaigkgjadpaaP7: lemmas of this proof (part 7). No conditions.
-/
import Derived.Test.YtachaigkgjadpaaP6
import Derived.KernelRfl
import Derived.Test.YtachaigkgjadpaaP5

/-
  H18I: chapter 18: the law's own functions; lists and labels.
-/
namespace Go.GB.C18
open Go.GB Go.GB.C11
set_option linter.unusedSimpArgs false
set_option linter.unusedVariables false
set_option maxRecDepth 100000
set_option maxHeartbeats 8000000
variable {P : Program}
/- labels of groups -/
theorem lab0_ok (H : Pr18 P) (e : Ent) : FnOk P 32 [e.v] ⟨[], 0⟩ { v := .t (.bool (e.lab == [])) } := by
  refine FnOk.run H.i32 H.mixed rfl rfl ?_
  refine fR rfl ?_
  refine Run.fin rfl (EndOk.go ?_); exact .t rfl
def lidx : Int → List Ent → Int
  | _, [] => -1
  | i, e :: r => if e.lab = [] then i else lidx (i + 1) r
theorem lidx_any : ∀ (l : List Ent) (i : Int), 0 ≤ i → decide (lidx i l ≥ 0) = l.any (fun e => e.lab == [])
  | [], i, h => by simp [lidx]
  | e :: r, i, h => by
    have ih := lidx_any r (i + 1) (by omega)
    by_cases hp : e.lab = []
    · simp [lidx, hp, h]
    · simp only [lidx, if_neg hp, ih]; simp [hp]
theorem lfind_ok (H : Pr18 P) (l : List Ent) (hl : l.length ≤ 140737488355328) : FnOk P 52 [.t (.lst (l.map Ent.enc)), .t (.fn 32)] ⟨[], 0⟩ { v := .t (.int .i64 (lidx 0 l)) } := by
  refine FnOk.run H.i52 H.mixed rfl rfl ?_
  refine fR rfl ?_
  refine lM rfl rfl rfl ?_
  refine fM rfl ?_
  refine rList l (fun i (_ : Unit) => { env := [(0, .t (.lst (l.map Ent.enc))), (1, .t (.fn 32)), (7, .t (.int .i64 l.length)), (8, .t (.int .i64 i))], s := ⟨[], 0⟩ }) (fun r i _ => lidx 0 l = lidx i r) 0 () rfl rfl rfl rfl rfl ?_ ?_
  · rintro _ hinv
    rw [hinv]
    refine fR rfl ?_
    refine Run.condF rfl rfl (by simp) ?_
    refine fR rfl ?_
    refine Run.fin rfl (EndOk.go ?_); exact .t rfl
  · rintro i x r _ h1 hi hd hinv ih
    refine fR rfl ?_
    refine Run.condT rfl rfl (by simp; omega) ?_
    refine fR rfl ?_
    refine Mid.elemMap rfl rfl rfl h1 rfl rfl ?_
    refine fM rfl ?_
    refine Mid.callv0 rfl (lab0_ok H x) rfl rfl rfl rfl ?_
    refine fM rfl ?_
    refine Run.cond rfl rfl (fun hc => ?_) (fun hc => ?_)
    · have hx : x.lab = [] := by simpa using hc
      refine fR rfl ?_
      refine Run.fin rfl (EndOk.go ?_); exact .t (by rw [hinv]; simp [lidx, hx])
    · have hx : ¬ x.lab = [] := by simpa using hc
      refine fR rfl ?_
      refine aL rfl rfl rfl rfl rfl ?_
      refine fM rfl ?_
      exact rWeak 0 rfl (ih () (by rw [hinv]; simp only [lidx, if_neg hx]; rfl)) rfl rfl rfl
theorem lcont_ok (H : Pr18 P) (l : List Ent) (hl : l.length ≤ 140737488355328) : FnOk P 31 [.t (.lst (l.map Ent.enc)), .t (.fn 32)] ⟨[], 0⟩ { v := .t (.bool (l.any fun e => e.lab == [])) } := by
  refine FnOk.run H.i31 H.mixed rfl rfl ?_
  refine fR rfl ?_
  refine Mid.call (lfind_ok H l hl) rfl rfl rfl rfl ?_
  refine fM rfl ?_
  refine Run.fin rfl (EndOk.go ?_); exact .t (by rw [← lidx_any l 0 (by omega)])
def grpLab (l : List Ent) : Str := if (l.any fun e => e.lab == []) = true then [] else match l with | [] => [] | e :: _ => e.lab
theorem label17_ok (H : Pr18 P) (k : Str) (l : List Ent) (hl : l.length ≤ 140737488355328) : FnOk P 17 [.agg [.t (.str k), .t (.lst (l.map Ent.enc))]] ⟨[], 0⟩ { v := .t (.str (grpLab l)) } := by
  have hc := lcont_ok H l hl
  refine FnOk.run H.i17 H.mixed rfl rfl ?_
  refine fR rfl ?_
  refine lM rfl rfl rfl ?_
  refine fM rfl ?_
  refine caG rfl rfl (fun hg => ⟨_, rfl, hc, rfl⟩) rfl rfl ?_
  refine fM rfl ?_
  cases l with
  | nil =>
    refine Run.condT rfl rfl rfl ?_
    refine fR rfl ?_
    refine Run.fin rfl (EndOk.go ?_); exact .t rfl
  | cons e r =>
    unfold grpLab
    cases ha : (e :: r).any (fun e => e.lab == []) with
    | true =>
      refine Run.condT rfl rfl (by simp) ?_
      refine fR rfl ?_
      refine Run.fin rfl (EndOk.go ?_); exact .t rfl
    | false =>
      have h0 : (e :: r)[0]? = some e := rfl
      refine Run.condF rfl rfl (by simp; omega) ?_
      refine fR rfl ?_
      refine pu rfl ?_
      refine fM rfl ?_
      refine Run.fin rfl (EndOk.go ?_); exact .t rfl
theorem rlabel18_ok (H : Pr18 P) (k : Str) (l : List Ent) (hl : l.length ≤ 140737488355328) : FnOk P 18 [.agg [.t (.str k), .t (.lst (l.map Ent.enc))]] ⟨[], 0⟩ { v := .t (.str (grpLab l)) } := by
  refine FnOk.run H.i18 H.mixed rfl rfl ?_
  refine fR rfl ?_
  refine rList l (fun i (_ : Unit) => { env := [(1, .ptr 0 0), (3, .t (.int .i64 i))], s := ⟨[(0, .cells [.t (.str k), .t (.lst (l.map Ent.enc))])], 1⟩ }) (fun r i _ => l.any (fun e => e.lab == []) = r.any (fun e => e.lab == [])) 1 () rfl rfl rfl rfl rfl ?_ ?_
  · rintro _ hinv
    have hn : l.any (fun e => e.lab == []) = false := by rw [hinv]; rfl
    unfold grpLab
    rw [hn]
    refine fR rfl ?_
    refine lM rfl rfl rfl ?_
    refine fM rfl ?_
    refine Run.condF rfl rfl (by simp) ?_
    refine fR rfl ?_
    refine lM rfl rfl rfl ?_
    refine fM rfl ?_
    cases l with
    | nil =>
      refine Run.condT rfl rfl rfl ?_
      refine fR rfl ?_
      refine Run.fin rfl (EndOk.go ?_); exact .t rfl
    | cons e r =>
      have h0 : (e :: r)[0]? = some e := rfl
      refine Run.condF rfl rfl (by simp; omega) ?_
      refine fR rfl ?_
      refine pu rfl ?_
      refine fM rfl ?_
      refine Run.fin rfl (EndOk.go ?_); exact .t rfl
  · rintro i x r _ h1 hi hd hinv ih
    refine fR rfl ?_
    refine lM rfl rfl rfl ?_
    refine fM rfl ?_
    refine Run.condT rfl rfl (by simp; omega) ?_
    refine fR rfl ?_
    refine Mid.elemMap rfl rfl rfl h1 rfl rfl ?_
    refine fM rfl ?_
    refine Run.cond rfl rfl (fun hc => ?_) (fun hc => ?_)
    · have hx : x.lab = [] := by simpa using hc
      have ht : l.any (fun e => e.lab == []) = true := by rw [hinv]; simp [hx]
      unfold grpLab
      rw [if_pos ht]
      refine fR rfl ?_
      refine Run.fin rfl (EndOk.go ?_); exact .t rfl
    · have hx : ¬ x.lab = [] := by simpa using hc
      refine fR rfl ?_
      refine aL rfl rfl rfl rfl rfl ?_
      refine fM rfl ?_
      exact rWeak 1 rfl (ih () (by rw [hinv]; simp [hx])) rfl rfl rfl
def mkF (a n : Str) : Sel := .mk 1 a n [] [] [] []
theorem mkF_ok (H : Pr18 P) (a n : Str) : FnOk P 22 [.t (.str a), .t (.str n)] ⟨[], 0⟩ { v := (mkF a n).v } := by
  refine FnOk.run H.i22 H.mixed rfl rfl ?_
  refine fR rfl ?_
  refine Run.fin rfl (EndOk.go ?_); exact .agg (.cons (.t rfl) (.cons (.t rfl) (.cons (.t rfl) (.cons (.t rfl) (.cons (.nil rfl) (.cons (.nil rfl) (.cons (.nil rfl) .nil)))))))
theorem text_ok (H : Pr18 P) (a n : Str) : FnOk P 24 [.t (.str a), .t (.str n)] ⟨[], 0⟩ { v := .agg [.t (.str a), .t (.int .i64 3), .t (.int .i64 0), .t (.str n), .t (.lst []), .t (.lst [])] } := by
  refine FnOk.run H.i24 H.mixed rfl rfl ?_
  refine fR rfl ?_
  refine Run.fin rfl (EndOk.go ?_); exact .agg (.cons (.t rfl) (.cons (.t rfl) (.cons (.t rfl) (.cons (.t rfl) (.cons (.nil rfl) (.cons (.nil rfl) .nil))))))
/- values, arguments, directives and selections are the same as themselves -/
end Go.GB.C18


/-
  H18J: chapter 18: small cases; the examples of the chapter.
-/
namespace Go.GB.C18
open Go.GB Go.GB.C11
set_option linter.unusedSimpArgs false
set_option linter.unusedVariables false
set_option maxRecDepth 100000
set_option maxHeartbeats 8000000
variable {P : Program}
theorem selL_true : ∀ (k : Nat) (s : Sel), SizeOf.sizeOf s ≤ k → SelL (fun _ => True) s
  | 0, s, h => by cases s; simp at h
  | k + 1, .mk a b c d e f g, h => .mk (fun _ _ => trivial) fun x hx => selL_true k x (by have h1 := List.sizeOf_lt_of_mem hx; simp only [Sel.mk.sizeOf_spec] at h; omega)
/- the example -/
def kD : List Def := [⟨1, [84], [], [], [], [], []⟩, ⟨3, [85], [], [], [], [], []⟩]
def kL : List Ent := [⟨mkF [] [97], []⟩, ⟨.mk 3 [] [] [84] [] [⟨[100, 101, 102, 101, 114], [⟨[108, 97, 98, 101, 108], .mk 3 0 [120] [] []⟩]⟩] [mkF [98] [99], mkF [] [97]], []⟩, ⟨.mk 3 [] [] [85] [] [] [mkF [] [100]], []⟩]
def kC : CCtx := ⟨kD, ⟨[], []⟩, [84], Val.zero⟩
theorem kRes : (entsF kC 30 kL ⟨[], []⟩).out = [⟨[97], [⟨mkF [] [97], []⟩, ⟨mkF [] [97], [120]⟩]⟩, ⟨[98], [⟨mkF [98] [99], [120]⟩]⟩] := by kernel_rfl
theorem def0_ok (k : Int) (n : Str) (hn : n.length ≤ 140737488355328) : (⟨k, n, [], [], [], [], []⟩ : Def).Ok := ⟨by simp, by simp, by simp, by simp, by simp, by simp, by simp, by simp, by simp, hn, by simp⟩
theorem mkF_sok (a n : Str) (ha : a.length ≤ 1000) (hn : n.length ≤ 1000) : (mkF a n).Ok := .mk (by omega) (by omega) (by simp) (by simp) (by simp) (by simp) (by simp) (by simp) (by simp)
theorem kD_ok : DocOk kD := ⟨by decide, fun y hy => by
    simp only [kD, List.mem_cons, List.not_mem_nil, or_false] at hy
    rcases hy with rfl | rfl
    · exact def0_ok _ _ (by simp)
    · exact def0_ok _ _ (by simp), by decide⟩
theorem kC_ok : COk kC (fun _ => True) [] := ⟨kD_ok, ⟨by decide, by simp [kC], by decide, by simp [kC]⟩, Val.zero_ok, by simp [kC], fun n f l h _ => by simp [kC, findFrag] at h⟩
theorem kL_ok : ∀ e, e ∈ kL → EntOk (fun _ => True) e := by
  intro e he
  refine ⟨?_, selL_true _ _ (Nat.le_refl _), trivial⟩
  simp only [kL, List.mem_cons, List.not_mem_nil, or_false] at he
  rcases he with rfl | rfl | rfl
  · exact mkF_sok _ _ (by simp) (by simp)
  · refine .mk (by simp) (by simp) (by simp) (by simp) (by simp) (by decide) (by simp) ?_ ?_
    · intro x hx
      rw [List.mem_singleton.1 hx]
      refine ⟨⟨by simp, ?_, by simp⟩, ?_⟩
      · intro y hy; rw [List.mem_singleton.1 hy]; exact .mk (by decide) (by decide) (by simp) (by simp) (by simp)
      · intro y hy; rw [List.mem_singleton.1 hy]; simp
    · intro x hx
      simp only [List.mem_cons, List.not_mem_nil, or_false] at hx
      rcases hx with rfl | rfl
      · exact mkF_sok _ _ (by simp) (by simp)
      · exact mkF_sok _ _ (by simp) (by simp)
  · refine .mk (by simp) (by simp) (by simp) (by simp) (by simp) (by decide) (by simp) (by simp) ?_
    intro x hx
    rw [List.mem_singleton.1 hx]; exact mkF_sok _ _ (by simp) (by simp)
def kS : List Dir := [⟨[115, 107, 105, 112], [⟨[105, 102], .mk 7 0 [98] [] []⟩]⟩]
def kY : Val := .mk 6 0 [] [.mk 1 1 [] [] []] [[98]]
theorem kS_ok : DirsOk kS := ⟨by decide, fun x hx => by
    rw [List.mem_singleton.1 hx]
    refine ⟨by simp, ?_, by simp⟩
    intro y hy; rw [List.mem_singleton.1 hy]; exact .mk (by decide) (by decide) (by simp) (by simp) (by simp)⟩
theorem kY_ok : kY.Ok := .mk (by decide) (by decide) (fun x hx => by rw [List.mem_singleton.1 hx]; exact .mk (by decide) (by decide) (by simp) (by simp) (by simp)) (by simp) (by simp)
theorem inc1 : incF kY kS = false := by kernel_rfl
theorem inc2 : incF Val.zero kS = true := by kernel_rfl
theorem lab1 : grpLab [⟨mkF [] [97], []⟩, ⟨mkF [] [97], [120]⟩] = [] := by kernel_rfl
theorem lab2 : grpLab [⟨mkF [98] [99], [120]⟩] = [120] := by kernel_rfl
theorem knows_ok (H : Pr18 P) : FnOk P 8 [] ⟨[], 0⟩ { v := .t (.bool true) } := by
  have hf := fields_ok H kC_ok 30 kL kL_ok (by decide) (by decide) (by decide)
  rw [kRes] at hf
  have h1 := label17_ok H [97] [⟨mkF [] [97], []⟩, ⟨mkF [] [97], [120]⟩] (by decide)
  rw [lab1] at h1
  have h2 := label17_ok H [98] [⟨mkF [98] [99], [120]⟩] (by decide)
  rw [lab2] at h2
  have i1 := included_ok H kS kS_ok kY kY_ok
  rw [inc1] at i1
  have i2 := included_ok H kS kS_ok Val.zero Val.zero_ok
  rw [inc2] at i2
  refine FnOk.run H.i8 H.mixed rfl rfl ?_
  refine fR rfl ?_
  refine Mid.call (mkF_ok H [] [97]) rfl rfl rfl rfl ?_
  refine fM rfl ?_
  refine Mid.call (text_ok H [108, 97, 98, 101, 108] [120]) rfl rfl rfl rfl ?_
  refine fM rfl ?_
  refine Mid.call (mkF_ok H [98] [99]) rfl rfl rfl rfl ?_
  skip
  refine Mid.call (mkF_ok H [] [97]) rfl rfl rfl rfl ?_
  refine fM rfl ?_
  refine Mid.call (mkF_ok H [] [100]) rfl rfl rfl rfl ?_
  refine fM rfl ?_
  refine Mid.call (hf) rfl rfl rfl rfl ?_
  refine fM rfl ?_
  refine lM rfl rfl rfl ?_
  refine fM rfl ?_
  refine gr rfl ?_
  refine fM rfl ?_
  refine gr rfl ?_
  refine fM rfl ?_
  refine lMG rfl rfl rfl rfl ?_
  refine fM rfl ?_
  refine gr rfl ?_
  refine fM rfl ?_
  refine gr rfl ?_
  refine fM rfl ?_
  refine lMG rfl rfl rfl rfl ?_
  refine fM rfl ?_
  refine gr rfl ?_
  refine fM rfl ?_
  refine gr rfl ?_
  refine fM rfl ?_
  refine Run.condF rfl rfl (by decide) ?_
  refine fR rfl ?_
  refine pu rfl ?_
  refine fM rfl ?_
  refine Mid.call (h1) rfl rfl rfl rfl ?_
  refine fM rfl ?_
  refine gr rfl ?_
  refine fM rfl ?_
  refine caG rfl rfl (fun hg => ⟨_, rfl, h2, rfl⟩) rfl rfl ?_
  refine fM rfl ?_
  refine caG rfl rfl (fun hg => ⟨_, rfl, i1, rfl⟩) rfl rfl ?_
  refine fM rfl ?_
  refine caG rfl rfl (fun hg => ⟨_, rfl, i2, rfl⟩) rfl rfl ?_
  refine fM rfl ?_
  refine Run.fin rfl (EndOk.go ?_); exact .t rfl
end Go.GB.C18


/-
  H18K: chapter 18: labels and marks of a case; how much it collects; keys differ.
-/
namespace Go.GB.C18
open Go.GB Go.GB.C11
set_option linter.unusedSimpArgs false
set_option linter.unusedVariables false
set_option maxRecDepth 100000
set_option maxHeartbeats 2000000
/- what entries keep of groups -/
def GOk (l : List Grp) : Prop := ∀ g, g ∈ l → ∀ e, e ∈ g.list → e.sel.Ok
theorem GOk.add : ∀ (e : Ent) (l : List Grp), e.sel.Ok → GOk l → GOk (addF e l)
  | e, [], he, _ => by intro g hg x hx; simp [addF] at hg; subst hg; simp at hx; subst hx; exact he
  | e, y :: r, he, h => by
    intro g hg x hx
    simp only [addF] at hg
    split at hg
    · rcases List.mem_cons.1 hg with rfl | hg
      · rcases List.mem_append.1 hx with hx | hx
        · exact h y (by simp) x hx
        · rw [List.mem_singleton.1 hx]; exact he
      · exact h g (by simp [hg]) x hx
    · rcases List.mem_cons.1 hg with rfl | hg
      · exact h _ (by simp) x hx
      · exact GOk.add e r he (fun z hz => h z (by simp [hz])) g hg x hx
/-- no two groups have the same key -/
def Dk (l : List Grp) : Prop := (l.map Grp.key).Nodup
theorem add_keys (e : Ent) : ∀ l : List Grp, (addF e l).map Grp.key = if keyF e.sel ∈ l.map Grp.key then l.map Grp.key else l.map Grp.key ++ [keyF e.sel]
  | [] => by simp [addF]
  | g :: r => by
    have ih := add_keys e r
    simp only [addF]
    by_cases h : g.key = keyF e.sel
    · simp [h]
    · rw [if_neg h]
      simp only [List.map_cons, ih, List.mem_cons]
      have h' : ¬ keyF e.sel = g.key := fun e => h e.symm
      by_cases h2 : keyF e.sel ∈ r.map Grp.key
      · simp [h2]
      · simp [h2, h']
theorem Dk.add (e : Ent) (l : List Grp) (_ : e.sel.Ok) (h : Dk l) : Dk (addF e l) := by
  unfold Dk at *
  rw [add_keys]
  split
  · exact h
  · rename_i hn
    rw [List.nodup_append]
    exact ⟨h, by simp, fun a ha b hb => by rw [List.mem_singleton.1 hb]; rintro rfl; exact hn ha⟩

/- labels -/
/- bulk -/
end Go.GB.C18


/-
  H18L: chapter 18: the laws of Included, Label, and of the type condition; Fields and the reference.
-/
namespace Go.GB.C18
open Go.GB Go.GB.C11
set_option linter.unusedSimpArgs false
set_option linter.unusedVariables false
set_option maxRecDepth 100000
set_option maxHeartbeats 8000000
variable {P : Program}
theorem law_label (H : Pr18 P) (l : List Str) (hl : l.length ≤ 140737488355328) : FnOk P 5 [.t (.lst (l.map sE))] ⟨[], 0⟩ { v := .t (.bool true) } := by
  refine FnOk.run H.i5 H.mixed rfl rfl ?_
  refine fR rfl ?_
  refine rList (l.take 200) (fun i (B : List Ent) => { env := [(0, .t (.lst (l.map sE))), (3, .ptr 0 0), (4, .ptr 1 0), (5, .t (.int .i64 i))], s := ⟨[(0, .cells [.t (.str []), .own 2 8 (B.map Ent.enc)]), (1, .cells [.t (.str []), .own 3 8 (B.map Ent.enc)]), (2, .arr B.length), (3, .arr B.length)], 4⟩ }) (fun r i B => B.length = i) 2 [] rfl rfl rfl rfl rfl ?_ ?_
  · rintro B hB
    have hB' : B.length = (l.take 200).length := hB
    have hb : B.length ≤ 200 := by rw [hB']; simp; omega
    refine fR rfl ?_
    refine lM rfl rfl rfl ?_
    refine fM rfl ?_
    refine Run.condF rfl rfl (by simp; omega) ?_
    refine fR rfl ?_
    refine Mid.call (label17_ok H [] B (by omega)) rfl rfl rfl rfl ?_
    refine fM rfl ?_
    refine Mid.call (rlabel18_ok H [] B (by omega)) rfl rfl rfl rfl ?_
    refine fM rfl ?_
    refine caG rfl rfl (fun hg => ⟨_, rfl, knows_ok H, rfl⟩) rfl rfl ?_
    refine fM rfl ?_
    refine Run.fin rfl (EndOk.go ?_); exact .t (by simp)
  · rintro i x r B h1 hi hd hBl ih
    have hBl' : B.length = i := hBl
    have hi' : i < l.length ∧ i < 200 := by simp at hi; omega
    have h2 : l[i]? = some x := by rw [List.getElem?_take] at h1; split at h1; exact h1; cases h1
    refine fR rfl ?_
    refine lM rfl rfl rfl ?_
    refine fM rfl ?_
    refine Run.condT rfl rfl (by simp; omega) ?_
    refine fR rfl ?_
    refine Mid.elemMap rfl rfl rfl h2 rfl rfl ?_
    refine fM rfl ?_
    refine apM Ent.enc B [(⟨.mk 0 [] [] [] [] [] [], x⟩ : Ent)] rfl rfl rfl rfl rfl ?_ (h1 := by first | omega | (simp; omega) | (simp; done)) (h2 := by first | omega | (simp; omega) | (simp; done))
    refine fM rfl ?_
    refine Mid.elemMap rfl rfl rfl h2 rfl rfl ?_
    refine fM rfl ?_
    refine apM Ent.enc B [(⟨.mk 0 [] [] [] [] [] [], x⟩ : Ent)] rfl rfl rfl rfl rfl ?_ (h1 := by first | omega | (simp; omega) | (simp; done)) (h2 := by first | omega | (simp; omega) | (simp; done))
    refine fM rfl ?_
    refine aL rfl rfl rfl rfl rfl ?_
    refine fM rfl ?_
    exact rWeak 4 rfl (ih (B ++ [(⟨.mk 0 [] [] [] [] [] [], x⟩ : Ent)]) (by simp; omega)) rfl rfl rfl
theorem nodup_at {l : List Grp} (h : Dk l) {i j : Nat} {x y : Grp} (hi : l[i]? = some x) (hj : l[j]? = some y) (hlt : j < i) : ¬ y.key = x.key := by
  have h2 := List.pairwise_iff_getElem.1 h j i
  obtain ⟨a1, a2⟩ := List.getElem?_eq_some_iff.1 hi
  obtain ⟨b1, b2⟩ := List.getElem?_eq_some_iff.1 hj
  have := h2 (by simpa using b1) (by simpa using a1) hlt
  simpa [a2, b2] using this
end Go.GB.C18


/-
  H18M: chapter 18: the law of the type condition.
-/
namespace Go.GB.C18
open Go.GB Go.GB.C11
set_option linter.unusedSimpArgs false
set_option linter.unusedVariables false
set_option maxRecDepth 100000
set_option maxHeartbeats 8000000
variable {P : Program}
end Go.GB.C18


/-
  D11R: shapes of chapter 11's arguments.
-/
namespace Go.GB.C11
open Go.GB

end Go.GB.C11


/-
  E13P: shapes of documents, as laws are handed them.
-/
namespace Go.GB
open Go.RowKit
set_option linter.unusedSimpArgs false
set_option linter.unusedVariables false

mutual
def Sh.low : Sh → Bool
  | .num i => i == 0
  | .lst _ s => Sh.lows s
  | _ => true
def Sh.lows : List Sh → Bool
  | [] => true
  | s :: r => s.low && Sh.lows r
end
mutual
theorem Sh.ok_mono {Y Z : Nat → T → Prop} (h : ∀ x, Y 0 x → Z 0 x) : ∀ (s : Sh) (x : T), s.low = true → s.ok Y x → s.ok Z x
  | .num i, x, hl, hx => by
    simp only [Sh.low, beq_iff_eq] at hl
    subst hl
    exact h x hx
  | .lst b s, x, hl, hx => by
    obtain ⟨xs, h1, h2, h3, h4⟩ := hx
    exact ⟨xs, h1, h2, h3, fun c hc => Sh.oks_mono h s c (by simpa [Sh.low] using hl) (h4 c hc)⟩
  | .int k, x, hl, hx => hx
  | .str, x, hl, hx => hx
  | .bool, x, hl, hx => hx
  | .any, x, hl, hx => hx
theorem Sh.oks_mono {Y Z : Nat → T → Prop} (h : ∀ x, Y 0 x → Z 0 x) : ∀ (s : List Sh) (c : List T), Sh.lows s = true → Sh.oks Y s c → Sh.oks Z s c
  | [], [], _, _ => trivial
  | [], x :: c, _, hx => by simp [Sh.oks] at hx
  | s :: r, [], _, hx => by simp [Sh.oks] at hx
  | s :: r, x :: c, hl, hx => by
    simp only [Sh.lows, Bool.and_eq_true] at hl
    simp only [Sh.oks] at hx ⊢
    exact ⟨Sh.ok_mono h s x hl.1 hx.1, Sh.oks_mono h r c hl.2 hx.2⟩
end
/-- lists of values, lists of selections -/
def YS : Nat → T → Prop
  | 0, x => YA 0 x
  | _, x => ∃ l : List Sel, x = .lst (l.map Sel.enc) ∧ l.length * 128 ≤ B47 ∧ ∀ v ∈ l, v.Ok
def selSh : List Sh := [.int .i64, .str, .str, .str, .lst 96 argSh, .lst 40 dirSh, .num 1]
theorem YS.low {x : T} (h : YS 0 x) : YA 0 x := h
theorem argN_sh {c : List T} (h : Sh.oks YA argSh c) : ∃ a : Arg, c = a.enc ∧ (a.Ok ∧ a.name.length ≤ 140737488355328) := by
  have := reach_le
  obtain ⟨x, c, rfl, ⟨n, rfl, hn⟩, g1⟩ := Sh.oks_cons h
  obtain ⟨v, c', rfl, h1, h2⟩ := val_sh (r := []) (by simpa using g1)
  obtain rfl := Sh.oks_nil h2
  exact ⟨⟨n, v⟩, by simp [Arg.enc, Val.cs], h1, by show n.length ≤ _; omega⟩
theorem dirN_sh {c : List T} (h : Sh.oks YA dirSh c) : ∃ a : Dir, c = a.enc ∧ (a.Ok ∧ ∀ y, y ∈ a.args → y.name.length ≤ 140737488355328) := by
  have := reach_le
  obtain ⟨x, c, rfl, ⟨n, rfl, hn⟩, g1⟩ := Sh.oks_cons h
  obtain ⟨x, c, rfl, hx, g2⟩ := Sh.oks_cons g1
  obtain rfl := Sh.oks_nil g2
  obtain ⟨l, rfl, h1, _, h2⟩ := list_of (fun c hc => argN_sh hc) hx
  exact ⟨⟨n, l⟩, rfl, ⟨by show l.length ≤ _; omega, fun y hy => (h2 y hy).1, by show n.length ≤ _; omega⟩, fun y hy => (h2 y hy).2⟩
theorem sel_sh {c : List T} (h : Sh.oks YS selSh c) : ∃ s : Sel, c = s.enc ∧ s.Ok := by
  have := reach_le
  obtain ⟨x, c, rfl, ⟨k, rfl, _⟩, g1⟩ := Sh.oks_cons h
  obtain ⟨x, c, rfl, ⟨al, rfl, h1⟩, g2⟩ := Sh.oks_cons g1
  obtain ⟨x, c, rfl, ⟨n, rfl, h2⟩, g3⟩ := Sh.oks_cons g2
  obtain ⟨x, c, rfl, ⟨o, rfl, h3⟩, g4⟩ := Sh.oks_cons g3
  obtain ⟨x, c, rfl, hx, g5⟩ := Sh.oks_cons g4
  obtain ⟨as, rfl, a1, _, a2⟩ := list_of (fun c hc => argN_sh hc) (Sh.ok_mono (Y := YS) (Z := YA) (fun _ h => h) _ _ (by decide) hx)
  obtain ⟨x, c, rfl, hx, g6⟩ := Sh.oks_cons g5
  obtain ⟨ds, rfl, d1, _, d2⟩ := list_of (fun c hc => dirN_sh hc) (Sh.ok_mono (Y := YS) (Z := YA) (fun _ h => h) _ _ (by decide) hx)
  obtain ⟨x, c, rfl, ⟨ss, rfl, s1, s2⟩, g7⟩ := Sh.oks_cons g6
  obtain rfl := Sh.oks_nil g7
  exact ⟨.mk k al n o as ds ss, by rw [Sel.enc_eq]; rfl, .mk (by omega) (by omega) (by omega) (by unfold B47; omega) (by omega) s1 a2 d2 s2⟩
def spS (vt st : TypeId) (e : TypeId) : Option Nat := if e = vt then some 0 else if e = st then some 1 else none
theorem sel_wt {P : Program} {vt st : TypeId} (hb : P.bytesOf vt = 80) (hs : shOf P (spV vt) 6 vt = some valSh) (hbs : P.bytesOf st = 128) (hss : shOf P (spS vt st) 12 st = some selSh) : ∀ (n : Nat) (c : List T), WT P n st c → ∃ s : Sel, c = s.enc ∧ s.Ok := by
  have hv := val_wt hb hs
  intro n
  induction n using Nat.strongRecOn with
  | _ n ih =>
    intro c h
    refine sel_sh (shOf_ok (Y := YS) n 12 st selSh c (fun e i k xs hk he hr hl hc => ?_) hss h)
    have := reach_le
    unfold spS at he
    split at he
    · rename_i e1; subst e1
      simp only [Option.some.injEq] at he; subst he
      obtain ⟨l, rfl, h3⟩ := choose_map (f := Val.enc) (Q := Val.Ok) xs fun c hcm => hv k c (hc c hcm)
      rw [hb] at hr
      exact ⟨l, rfl, by unfold B47; simp at hr; omega, h3⟩
    · split at he
      · rename_i _ e1; subst e1
        simp only [Option.some.injEq] at he; subst he
        obtain ⟨l, rfl, h3⟩ := choose_map (f := Sel.enc) (Q := Sel.Ok) xs fun c hcm => ih k hk c (hc c hcm)
        rw [hbs] at hr
        exact ⟨l, rfl, by unfold B47; simp at hr; omega, h3⟩
      · cases he
theorem spS_ok {P : Program} {vt st : TypeId} (hb : P.bytesOf vt = 80) (hs : shOf P (spV vt) 6 vt = some valSh) (hbs : P.bytesOf st = 128) (hss : shOf P (spS vt st) 12 st = some selSh) :
    ∀ e i n xs, spS vt st e = some i → xs.length * P.bytesOf e ≤ reachBytes → xs.length ≤ maxLen → (∀ c ∈ xs, WT P n e c) → YS i (.lst xs) := by
  have hv := val_wt hb hs
  have hp := sel_wt hb hs hbs hss
  intro e i k xs he hr hl hc
  have := reach_le
  unfold spS at he
  split at he
  · rename_i e1; subst e1
    simp only [Option.some.injEq] at he; subst he
    obtain ⟨l, rfl, h3⟩ := choose_map (f := Val.enc) (Q := Val.Ok) xs fun c hcm => hv k c (hc c hcm)
    rw [hb] at hr
    exact ⟨l, rfl, by unfold B47; simp at hr; omega, h3⟩
  · split at he
    · rename_i _ e1; subst e1
      simp only [Option.some.injEq] at he; subst he
      obtain ⟨l, rfl, h3⟩ := choose_map (f := Sel.enc) (Q := Sel.Ok) xs fun c hcm => hp k c (hc c hcm)
      rw [hbs] at hr
      exact ⟨l, rfl, by unfold B47; simp at hr; omega, h3⟩
    · cases he
end Go.GB


/-
  H18N: chapter 18: shapes of its arguments.
-/
namespace Go.GB.C18
open Go.GB Go.GB.C11
set_option linter.unusedSimpArgs false
set_option linter.unusedVariables false
theorem strsS_sh0 {c : List T} (h : Sh.oks YS [.lst 16 [.str]] c) : ∃ l : List Str, c = [.lst (l.map sE)] ∧ l.length ≤ 140737488355328 := by
  have := reach_le
  obtain ⟨x, c, rfl, hx, g⟩ := Sh.oks_cons h
  obtain rfl := Sh.oks_nil g
  obtain ⟨l, rfl, h1, _⟩ := strs_of (Sh.ok_mono (Y := YS) (Z := YA) (fun _ h => h) _ _ (by decide) hx)
  exact ⟨l, rfl, by omega⟩
end Go.GB.C18

