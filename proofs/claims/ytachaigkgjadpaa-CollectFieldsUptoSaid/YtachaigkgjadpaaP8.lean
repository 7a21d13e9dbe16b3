/-
  YtachaigkgjadpaaP8: lemmas of this proof (part 8). No conditions.
-/
import Derived.Test.YtachaigkgjadpaaP7
import Derived.KernelRfl
import Derived.Test.YtachaigkgjadpaaP5

/-
  H18I: chapter 18: the law's own functions; lists and labels.
-/
namespace Go.GB.C18
open Go.GB Go.GB.C11
set_option linter.unusedSimpArgs false
set_option linter.unusedVariables false
set_option maxRecDepth 100000
set_option maxHeartbeats 8000000
variable {P : Program}
theorem entries_ok (H : Pr18 P) (l : List Ent) (hl : l.length * 144 ≤ 140737488355328) : FnOk P 13 [.t (.lst (l.map Ent.enc))] ⟨[], 0⟩ { v := .t (.lst (l.map Ent.enc)) } := by
  refine FnOk.run H.i13 H.mixed rfl rfl ?_
  refine fR rfl ?_
  refine rList l (fun i (B : List Ent) => { env := [(0, .t (.lst (l.map Ent.enc))), (3, .own 0 8 (B.map Ent.enc)), (4, .t (.int .i64 i))], s := ⟨[(0, .arr B.length)], 1⟩ }) (fun r i B => B.length = i ∧ B ++ r = l) 0 [] rfl ⟨rfl, rfl⟩ rfl rfl rfl ?_ ?_
  · rintro B ⟨_, hB⟩
    have e : B = l := by rw [← hB]; simp
    refine fR rfl ?_
    refine lM rfl rfl rfl ?_
    refine fM rfl ?_
    refine Run.condF rfl rfl (by simp) ?_
    refine fR rfl ?_
    refine Run.fin rfl (EndOk.go ?_); exact .own (by rw [e])
  · rintro i x r B h1 hi hd ⟨hBl, hB⟩ ih
    have hBl' : B.length = i := hBl
    refine fR rfl ?_
    refine lM rfl rfl rfl ?_
    refine fM rfl ?_
    refine Run.condT rfl rfl (by simp; omega) ?_
    refine fR rfl ?_
    refine Mid.elemMap rfl rfl rfl h1 rfl rfl ?_
    refine fM rfl ?_
    refine Mid.elemMap rfl rfl rfl h1 rfl rfl ?_
    refine fM rfl ?_
    refine apM Ent.enc B [x] rfl rfl rfl rfl rfl ?_ (h1 := by first | omega | (simp; omega) | (simp; done)) (h2 := by first | omega | (simp; omega) | (simp; done))
    refine fM rfl ?_
    refine aL rfl rfl rfl rfl rfl ?_
    refine fM rfl ?_
    exact rWeak 1 rfl (ih (B ++ [x]) ⟨by simp; omega, by rw [← hB]; simp⟩) rfl rfl rfl
theorem plain_ok (H : Pr18 P) (l : List Ent) (hl : l.length * 144 ≤ 140737488355328) : FnOk P 16 [.t (.lst (l.map Ent.enc))] ⟨[], 0⟩ { v := .t (.lst (l.map Ent.enc)) } := by
  refine FnOk.run H.i16 H.mixed rfl rfl ?_
  refine fR rfl ?_
  refine rList l (fun i (B : List Ent) => { env := [(0, .t (.lst (l.map Ent.enc))), (3, .own 0 8 (B.map Ent.enc)), (4, .t (.int .i64 i))], s := ⟨[(0, .arr B.length)], 1⟩ }) (fun r i B => B.length = i ∧ B ++ r = l) 0 [] rfl ⟨rfl, rfl⟩ rfl rfl rfl ?_ ?_
  · rintro B ⟨_, hB⟩
    have e : B = l := by rw [← hB]; simp
    refine fR rfl ?_
    refine lM rfl rfl rfl ?_
    refine fM rfl ?_
    refine Run.condF rfl rfl (by simp) ?_
    refine fR rfl ?_
    refine Run.fin rfl (EndOk.go ?_); exact .own (by rw [e])
  · rintro i x r B h1 hi hd ⟨hBl, hB⟩ ih
    have hBl' : B.length = i := hBl
    refine fR rfl ?_
    refine lM rfl rfl rfl ?_
    refine fM rfl ?_
    refine Run.condT rfl rfl (by simp; omega) ?_
    refine fR rfl ?_
    refine Mid.elemMap rfl rfl rfl h1 rfl rfl ?_
    refine fM rfl ?_
    refine Mid.elemMap rfl rfl rfl h1 rfl rfl ?_
    refine fM rfl ?_
    refine apM Ent.enc B [x] rfl rfl rfl rfl rfl ?_ (h1 := by first | omega | (simp; omega) | (simp; done)) (h2 := by first | omega | (simp; omega) | (simp; done))
    refine fM rfl ?_
    refine aL rfl rfl rfl rfl rfl ?_
    refine fM rfl ?_
    exact rWeak 1 rfl (ih (B ++ [x]) ⟨by simp; omega, by rw [← hB]; simp⟩) rfl rfl rfl
/- labels of groups -/
theorem lab0_ok (H : Pr18 P) (e : Ent) : FnOk P 32 [e.v] ⟨[], 0⟩ { v := .t (.bool (e.lab == [])) } := by
  refine FnOk.run H.i32 H.mixed rfl rfl ?_
  refine fR rfl ?_
  refine Run.fin rfl (EndOk.go ?_); exact .t rfl
def lidx : Int → List Ent → Int
  | _, [] => -1
  | i, e :: r => if e.lab = [] then i else lidx (i + 1) r
theorem lidx_any : ∀ (l : List Ent) (i : Int), 0 ≤ i → decide (lidx i l ≥ 0) = l.any (fun e => e.lab == [])
  | [], i, h => by simp [lidx]
  | e :: r, i, h => by
    have ih := lidx_any r (i + 1) (by omega)
    by_cases hp : e.lab = []
    · simp [lidx, hp, h]
    · simp only [lidx, if_neg hp, ih]; simp [hp]
theorem lfind_ok (H : Pr18 P) (l : List Ent) (hl : l.length ≤ 140737488355328) : FnOk P 52 [.t (.lst (l.map Ent.enc)), .t (.fn 32)] ⟨[], 0⟩ { v := .t (.int .i64 (lidx 0 l)) } := by
  refine FnOk.run H.i52 H.mixed rfl rfl ?_
  refine fR rfl ?_
  refine lM rfl rfl rfl ?_
  refine fM rfl ?_
  refine rList l (fun i (_ : Unit) => { env := [(0, .t (.lst (l.map Ent.enc))), (1, .t (.fn 32)), (7, .t (.int .i64 l.length)), (8, .t (.int .i64 i))], s := ⟨[], 0⟩ }) (fun r i _ => lidx 0 l = lidx i r) 0 () rfl rfl rfl rfl rfl ?_ ?_
  · rintro _ hinv
    rw [hinv]
    refine fR rfl ?_
    refine Run.condF rfl rfl (by simp) ?_
    refine fR rfl ?_
    refine Run.fin rfl (EndOk.go ?_); exact .t rfl
  · rintro i x r _ h1 hi hd hinv ih
    refine fR rfl ?_
    refine Run.condT rfl rfl (by simp; omega) ?_
    refine fR rfl ?_
    refine Mid.elemMap rfl rfl rfl h1 rfl rfl ?_
    refine fM rfl ?_
    refine Mid.callv0 rfl (lab0_ok H x) rfl rfl rfl rfl ?_
    refine fM rfl ?_
    refine Run.cond rfl rfl (fun hc => ?_) (fun hc => ?_)
    · have hx : x.lab = [] := by simpa using hc
      refine fR rfl ?_
      refine Run.fin rfl (EndOk.go ?_); exact .t (by rw [hinv]; simp [lidx, hx])
    · have hx : ¬ x.lab = [] := by simpa using hc
      refine fR rfl ?_
      refine aL rfl rfl rfl rfl rfl ?_
      refine fM rfl ?_
      exact rWeak 0 rfl (ih () (by rw [hinv]; simp only [lidx, if_neg hx]; rfl)) rfl rfl rfl
theorem lcont_ok (H : Pr18 P) (l : List Ent) (hl : l.length ≤ 140737488355328) : FnOk P 31 [.t (.lst (l.map Ent.enc)), .t (.fn 32)] ⟨[], 0⟩ { v := .t (.bool (l.any fun e => e.lab == [])) } := by
  refine FnOk.run H.i31 H.mixed rfl rfl ?_
  refine fR rfl ?_
  refine Mid.call (lfind_ok H l hl) rfl rfl rfl rfl ?_
  refine fM rfl ?_
  refine Run.fin rfl (EndOk.go ?_); exact .t (by rw [← lidx_any l 0 (by omega)])
def grpLab (l : List Ent) : Str := if (l.any fun e => e.lab == []) = true then [] else match l with | [] => [] | e :: _ => e.lab
theorem label17_ok (H : Pr18 P) (k : Str) (l : List Ent) (hl : l.length ≤ 140737488355328) : FnOk P 17 [.agg [.t (.str k), .t (.lst (l.map Ent.enc))]] ⟨[], 0⟩ { v := .t (.str (grpLab l)) } := by
  have hc := lcont_ok H l hl
  refine FnOk.run H.i17 H.mixed rfl rfl ?_
  refine fR rfl ?_
  refine lM rfl rfl rfl ?_
  refine fM rfl ?_
  refine caG rfl rfl (fun hg => ⟨_, rfl, hc, rfl⟩) rfl rfl ?_
  refine fM rfl ?_
  cases l with
  | nil =>
    refine Run.condT rfl rfl rfl ?_
    refine fR rfl ?_
    refine Run.fin rfl (EndOk.go ?_); exact .t rfl
  | cons e r =>
    unfold grpLab
    cases ha : (e :: r).any (fun e => e.lab == []) with
    | true =>
      refine Run.condT rfl rfl (by simp) ?_
      refine fR rfl ?_
      refine Run.fin rfl (EndOk.go ?_); exact .t rfl
    | false =>
      have h0 : (e :: r)[0]? = some e := rfl
      refine Run.condF rfl rfl (by simp; omega) ?_
      refine fR rfl ?_
      refine pu rfl ?_
      refine fM rfl ?_
      refine Run.fin rfl (EndOk.go ?_); exact .t rfl
def mkF (a n : Str) : Sel := .mk 1 a n [] [] [] []
theorem mkF_ok (H : Pr18 P) (a n : Str) : FnOk P 22 [.t (.str a), .t (.str n)] ⟨[], 0⟩ { v := (mkF a n).v } := by
  refine FnOk.run H.i22 H.mixed rfl rfl ?_
  refine fR rfl ?_
  refine Run.fin rfl (EndOk.go ?_); exact .agg (.cons (.t rfl) (.cons (.t rfl) (.cons (.t rfl) (.cons (.t rfl) (.cons (.nil rfl) (.cons (.nil rfl) (.cons (.nil rfl) .nil)))))))
theorem text_ok (H : Pr18 P) (a n : Str) : FnOk P 24 [.t (.str a), .t (.str n)] ⟨[], 0⟩ { v := .agg [.t (.str a), .t (.int .i64 3), .t (.int .i64 0), .t (.str n), .t (.lst []), .t (.lst [])] } := by
  refine FnOk.run H.i24 H.mixed rfl rfl ?_
  refine fR rfl ?_
  refine Run.fin rfl (EndOk.go ?_); exact .agg (.cons (.t rfl) (.cons (.t rfl) (.cons (.t rfl) (.cons (.t rfl) (.cons (.nil rfl) (.cons (.nil rfl) .nil))))))
/- values, arguments, directives and selections are the same as themselves -/
theorem ints_refl (H : Pr18 P) (n : Int) : FnOk P 72 [.t (.int .i64 n), .t (.int .i64 n)] ⟨[], 0⟩ { v := .t (.int .i64 0) } := by
  refine FnOk.run H.i72 H.mixed rfl rfl ?_
  refine fR rfl ?_
  refine Run.condF rfl rfl (by simp) ?_
  refine fR rfl ?_
  refine Run.condF rfl rfl (by simp) ?_
  refine fR rfl ?_
  refine Run.fin rfl (EndOk.go ?_); exact .t rfl
theorem less_irrefl : ∀ s : List UInt8, Op.bytesLess s s = false
  | [] => rfl
  | a :: r => by simp [Op.bytesLess, less_irrefl r]
theorem strings_refl (H : Pr18 P) (s : Str) : FnOk P 73 [.t (.str s), .t (.str s)] ⟨[], 0⟩ { v := .t (.int .i64 0) } := by
  refine FnOk.run H.i73 H.mixed rfl rfl ?_
  refine fR rfl ?_
  refine Run.condF rfl rfl (by simp [less_irrefl]) ?_
  refine fR rfl ?_
  refine Run.condF rfl rfl (by simp [less_irrefl]) ?_
  refine fR rfl ?_
  refine Run.fin rfl (EndOk.go ?_); exact .t rfl

def keyAt (v : Val) (i : Nat) : Str := (v.keys[i]?).getD []
theorem key_ok (H : Pr18 P) (v : Val) (hv : v.Ok) (i : Nat) (hi : i ≤ 140737488355328) : FnOk P 74 [v.v, .t (.int .i64 i)] ⟨[], 0⟩ { v := .t (.str (keyAt v i)) } := by
  have hkl := hv.kl
  refine FnOk.run H.i74 H.mixed rfl rfl ?_
  refine fR rfl ?_
  refine lM rfl rfl rfl ?_
  refine fM rfl ?_
  refine Run.cond rfl rfl (fun h => ?_) (fun h => ?_)
  · have h' : i < v.keys.length := by simpa using h
    have h1 : v.keys[i]? = some (v.keys[i]'h') := by simp
    have hk : keyAt v i = v.keys[i]'h' := by simp [keyAt, h1]
    generalize v.keys[i]'h' = x at h1 hk
    refine fR rfl ?_
    refine Mid.elemMap rfl rfl rfl h1 rfl rfl ?_
    refine fM rfl ?_
    refine Run.fin rfl (EndOk.go ?_); exact .t (by simp [hk])
  · have h' : ¬ i < v.keys.length := by simpa using h
    have hk : keyAt v i = [] := by simp [keyAt, List.getElem?_eq_none (Nat.le_of_not_lt h')]
    refine fR rfl ?_
    refine Run.fin rfl (EndOk.go ?_); exact .t (by simp [hk])

def CmpC (P : Program) (a : Val) : Prop := FnOk P 71 [a.v, a.v] ⟨[], 0⟩ { v := .t (.int .i64 0) }
theorem cmp_step (H : Pr18 P) (a : Val) (ha : a.Ok) (hrec : ∀ x, x ∈ a.items → CmpC P x) : CmpC P a := by
  have hil := ha.il
  have hkl := ha.kl
  unfold CmpC
  refine FnOk.run H.i71 H.mixed rfl rfl ?_
  refine fR rfl ?_
  refine Mid.call (ints_refl H a.kind) rfl rfl rfl rfl ?_
  refine fM rfl ?_
  refine Run.condT rfl rfl (by simp [less_irrefl]) ?_
  refine fR rfl ?_
  refine Mid.call (ints_refl H a.int) rfl rfl rfl rfl ?_
  refine fM rfl ?_
  refine Run.condT rfl rfl (by simp) ?_
  refine fR rfl ?_
  refine Mid.call (strings_refl H a.text) rfl rfl rfl rfl ?_
  refine fM rfl ?_
  refine rList a.items (fun i (_ : Unit) => { env := [(2, .ptr 0 0), (3, .ptr 1 0), (5, .t (.int .i64 0)), (6, .t (.int .i64 i))], s := ⟨[(0, .cells [.t (.int .i64 a.kind), .t (.int .i64 a.int), .t (.str a.text), .t (.lst (a.items.map Val.enc)), .t (.lst (a.keys.map sE))]), (1, .cells [.t (.int .i64 a.kind), .t (.int .i64 a.int), .t (.str a.text), .t (.lst (a.items.map Val.enc)), .t (.lst (a.keys.map sE))])], 2⟩ }) (fun r i _ => True) 2 () rfl trivial rfl rfl rfl ?_ ?_
  · intro _ _
    refine fR rfl ?_
    refine Run.condT rfl rfl (by simp) ?_
    refine fR rfl ?_
    refine lM rfl rfl rfl ?_
    refine fM rfl ?_
    refine lMG rfl rfl rfl rfl ?_
    refine fM rfl ?_
    refine Run.condT rfl rfl (by simp) ?_
    refine fR rfl ?_
    refine lM rfl rfl rfl ?_
    refine fM rfl ?_
    refine lM rfl rfl rfl ?_
    refine Mid.call (ints_refl H (a.items.length : Nat)) rfl rfl rfl rfl ?_
    refine fM rfl ?_
    refine Run.fin rfl (EndOk.go ?_); exact .t rfl
  · intro i x r _ h1 hi hd _ ih
    have hc := hrec x (List.mem_of_getElem? h1)
    unfold CmpC at hc
    refine fR rfl ?_
    refine Run.condT rfl rfl (by simp) ?_
    refine fR rfl ?_
    refine lM rfl rfl rfl ?_
    refine fM rfl ?_
    refine lMG rfl rfl rfl rfl ?_
    refine fM rfl ?_
    refine Run.condF rfl rfl (by simp; omega) ?_
    refine fR rfl ?_
    refine Mid.call (key_ok H a ha i (by omega)) rfl rfl rfl rfl ?_
    refine fM rfl ?_
    refine Mid.call (key_ok H a ha i (by omega)) rfl rfl rfl rfl ?_
    skip
    refine Mid.call (strings_refl H (keyAt a i)) rfl rfl rfl rfl ?_
    refine fM rfl ?_
    refine Run.condT rfl rfl (by simp) ?_
    refine fR rfl ?_
    refine Mid.elemMapC (Val.enc_eq x) rfl rfl rfl h1 rfl rfl ?_
    refine fM rfl ?_
    refine Mid.elemMapC (Val.enc_eq x) rfl rfl rfl h1 rfl rfl ?_
    refine fM rfl ?_
    refine Mid.call (hc) rfl rfl rfl rfl ?_
    refine fM rfl ?_
    refine aL rfl rfl rfl rfl rfl ?_
    refine fM rfl ?_
    exact rWeak 2 rfl (ih () trivial) rfl rfl rfl
theorem cmp_refl' (H : Pr18 P) : ∀ (k : Nat) (a : Val), SizeOf.sizeOf a ≤ k → a.Ok → CmpC P a
  | 0, a, h, _ => by cases a; simp at h
  | k + 1, a, h, ha => cmp_step H a ha fun x hx => cmp_refl' H k x (by have := Val.size_items a hx; omega) (ha.it x hx)
theorem cmp_refl (H : Pr18 P) (a : Val) (ha : a.Ok) : FnOk P 71 [a.v, a.v] ⟨[], 0⟩ { v := .t (.int .i64 0) } := cmp_refl' H _ a (Nat.le_refl _) ha
theorem sameV_refl (H : Pr18 P) (a : Val) (ha : a.Ok) : FnOk P 64 [a.v, a.v] ⟨[], 0⟩ { v := .t (.bool true) } := by
  refine FnOk.run H.i64 H.mixed rfl rfl ?_
  refine fR rfl ?_
  refine Mid.call (cmp_refl H a ha) rfl rfl rfl rfl ?_
  refine fM rfl ?_
  refine Run.fin rfl (EndOk.go ?_); exact .t (by simp)
theorem sameArgs_refl (H : Pr18 P) (l : List Arg) (hl : l.length ≤ 140737488355328) (ho : ∀ x, x ∈ l → x.Ok) : FnOk P 50 [.t (.lst (l.map Arg.enc)), .t (.lst (l.map Arg.enc))] ⟨[], 0⟩ { v := .t (.bool true) } := by
  refine FnOk.run H.i50 H.mixed rfl rfl ?_
  refine fR rfl ?_
  refine lM rfl rfl rfl ?_
  refine fM rfl ?_
  refine lM rfl rfl rfl ?_
  refine fM rfl ?_
  refine Run.condF rfl rfl (by simp) ?_
  refine fR rfl ?_
  refine rList l (fun i (_ : Unit) => { env := [(0, .t (.lst (l.map Arg.enc))), (1, .t (.lst (l.map Arg.enc))), (5, .t (.int .i64 i))], s := ⟨[], 0⟩ }) (fun r i _ => True) 0 () rfl trivial rfl rfl rfl ?_ ?_
  · rintro _ _
    refine fR rfl ?_
    refine lM rfl rfl rfl ?_
    refine fM rfl ?_
    refine Run.condF rfl rfl (by simp) ?_
    refine fR rfl ?_
    refine Run.fin rfl (EndOk.go ?_); exact .t rfl
  · rintro i x r _ h1 hi hd _ ih
    have hx := ho x (List.mem_of_getElem? h1)
    refine fR rfl ?_
    refine lM rfl rfl rfl ?_
    refine fM rfl ?_
    refine Run.condT rfl rfl (by simp; omega) ?_
    refine fR rfl ?_
    refine Mid.elemMap rfl rfl rfl h1 rfl rfl ?_
    refine fM rfl ?_
    refine Mid.elemMap rfl rfl rfl h1 rfl rfl ?_
    refine fM rfl ?_
    refine elG rfl rfl rfl rfl h1 rfl rfl ?_
    refine fM rfl ?_
    refine elG rfl rfl rfl rfl h1 rfl rfl ?_
    refine fM rfl ?_
    refine caG rfl rfl (fun hg => ⟨_, rfl, sameV_refl H x.val hx, rfl⟩) rfl rfl ?_
    refine fM rfl ?_
    refine Run.condF rfl rfl (by simp) ?_
    refine fR rfl ?_
    refine aL rfl rfl rfl rfl rfl ?_
    refine fM rfl ?_
    exact rWeak 0 rfl (ih () trivial) rfl rfl rfl
theorem sameDirs_refl (H : Pr18 P) (l : List Dir) (hd : DirsOk l) : FnOk P 51 [.t (.lst (l.map Dir.enc)), .t (.lst (l.map Dir.enc))] ⟨[], 0⟩ { v := .t (.bool true) } := by
  have hl := hd.l
  refine FnOk.run H.i51 H.mixed rfl rfl ?_
  refine fR rfl ?_
  refine lM rfl rfl rfl ?_
  refine fM rfl ?_
  refine lM rfl rfl rfl ?_
  refine fM rfl ?_
  refine Run.condF rfl rfl (by simp) ?_
  refine fR rfl ?_
  refine rList l (fun i (_ : Unit) => { env := [(0, .t (.lst (l.map Dir.enc))), (1, .t (.lst (l.map Dir.enc))), (5, .t (.int .i64 i))], s := ⟨[], 0⟩ }) (fun r i _ => True) 0 () rfl trivial rfl rfl rfl ?_ ?_
  · rintro _ _
    refine fR rfl ?_
    refine lM rfl rfl rfl ?_
    refine fM rfl ?_
    refine Run.condF rfl rfl (by simp) ?_
    refine fR rfl ?_
    refine Run.fin rfl (EndOk.go ?_); exact .t rfl
  · rintro i x r _ h1 hi hd' _ ih
    have hx := hd.d x (List.mem_of_getElem? h1)
    refine fR rfl ?_
    refine lM rfl rfl rfl ?_
    refine fM rfl ?_
    refine Run.condT rfl rfl (by simp; omega) ?_
    refine fR rfl ?_
    refine Mid.elemMap rfl rfl rfl h1 rfl rfl ?_
    refine fM rfl ?_
    refine Mid.elemMap rfl rfl rfl h1 rfl rfl ?_
    refine fM rfl ?_
    refine elG rfl rfl rfl rfl h1 rfl rfl ?_
    refine fM rfl ?_
    refine elG rfl rfl rfl rfl h1 rfl rfl ?_
    refine fM rfl ?_
    refine caG rfl rfl (fun hg => ⟨_, rfl, sameArgs_refl H x.args hx.l hx.a, rfl⟩) rfl rfl ?_
    refine fM rfl ?_
    refine Run.condF rfl rfl (by simp) ?_
    refine fR rfl ?_
    refine aL rfl rfl rfl rfl rfl ?_
    refine fM rfl ?_
    exact rWeak 0 rfl (ih () trivial) rfl rfl rfl
def SameS (P : Program) (l : List Sel) : Prop := FnOk P 30 [.t (.lst (l.map Sel.enc)), .t (.lst (l.map Sel.enc))] ⟨[], 0⟩ { v := .t (.bool true) }
theorem sameSels_step (H : Pr18 P) (l : List Sel) (hl : l.length ≤ 140737488355328) (ho : ∀ x, x ∈ l → x.Ok) (hrec : ∀ x, x ∈ l → SameS P x.sels) : SameS P l := by
  unfold SameS
  refine FnOk.run H.i30 H.mixed rfl rfl ?_
  refine fR rfl ?_
  refine lM rfl rfl rfl ?_
  refine fM rfl ?_
  refine lM rfl rfl rfl ?_
  refine fM rfl ?_
  refine Run.condF rfl rfl (by simp) ?_
  refine fR rfl ?_
  refine rList l (fun i (_ : Unit) => { env := [(0, .t (.lst (l.map Sel.enc))), (1, .t (.lst (l.map Sel.enc))), (5, .t (.int .i64 i))], s := ⟨[], 0⟩ }) (fun r i _ => True) 0 () rfl trivial rfl rfl rfl ?_ ?_
  · rintro _ _
    refine fR rfl ?_
    refine lM rfl rfl rfl ?_
    refine fM rfl ?_
    refine Run.condF rfl rfl (by simp) ?_
    refine fR rfl ?_
    refine Run.fin rfl (EndOk.go ?_); exact .t rfl
  · rintro i x r _ h1 hi hd' _ ih
    have hx := ho x (List.mem_of_getElem? h1)
    have hr := hrec x (List.mem_of_getElem? h1)
    unfold SameS at hr
    refine fR rfl ?_
    refine lM rfl rfl rfl ?_
    refine fM rfl ?_
    refine Run.condT rfl rfl (by simp; omega) ?_
    refine fR rfl ?_
    refine Mid.elemMapC (Sel.enc_eq x) rfl rfl rfl h1 rfl rfl ?_
    refine fM rfl ?_
    refine Mid.elemMapC (Sel.enc_eq x) rfl rfl rfl h1 rfl rfl ?_
    refine fM rfl ?_
    refine caG rfl rfl (fun hg => ⟨_, rfl, sameArgs_refl H x.args (by have := hx.arl; omega) (fun y hy => (hx.ar y hy).1), rfl⟩) rfl rfl ?_
    refine fM rfl ?_
    refine caG rfl rfl (fun hg => ⟨_, rfl, sameDirs_refl H x.dirs ⟨hx.dl, fun y hy => (hx.d y hy).1⟩, rfl⟩) rfl rfl ?_
    refine fM rfl ?_
    refine caG rfl rfl (fun hg => ⟨_, rfl, hr, rfl⟩) rfl rfl ?_
    refine fM rfl ?_
    refine Run.condF rfl rfl (by simp) ?_
    refine fR rfl ?_
    refine aL rfl rfl rfl rfl rfl ?_
    refine fM rfl ?_
    exact rWeak 0 rfl (ih () trivial) rfl rfl rfl
theorem sameSels_ok' (H : Pr18 P) : ∀ (k : Nat) (l : List Sel), SizeOf.sizeOf l ≤ k → l.length ≤ 140737488355328 → (∀ x, x ∈ l → x.Ok) → SameS P l
  | 0, l, h, _, _ => by cases l <;> simp at h
  | k + 1, l, h, hl, ho => sameSels_step H l hl ho fun x hx => sameSels_ok' H k x.sels (by have h1 := List.sizeOf_lt_of_mem hx; have h2 := Sel.size_sels x; omega) (by have := (ho x hx).sl; omega) (ho x hx).s
theorem sameSels_refl (H : Pr18 P) (l : List Sel) (hl : l.length ≤ 140737488355328) (ho : ∀ x, x ∈ l → x.Ok) : FnOk P 30 [.t (.lst (l.map Sel.enc)), .t (.lst (l.map Sel.enc))] ⟨[], 0⟩ { v := .t (.bool true) } := sameSels_ok' H _ l (Nat.le_refl _) hl ho
theorem sameE_refl (H : Pr18 P) (l : List Ent) (hl : l.length ≤ 140737488355328) (ho : ∀ e, e ∈ l → e.sel.Ok) : FnOk P 15 [.t (.lst (l.map Ent.enc)), .t (.lst (l.map Ent.enc))] ⟨[], 0⟩ { v := .t (.bool true) } := by
  refine FnOk.run H.i15 H.mixed rfl rfl ?_
  refine fR rfl ?_
  refine lM rfl rfl rfl ?_
  refine fM rfl ?_
  refine lM rfl rfl rfl ?_
  refine fM rfl ?_
  refine Run.condF rfl rfl (by simp) ?_
  refine fR rfl ?_
  refine rList l (fun i (_ : Unit) => { env := [(0, .t (.lst (l.map Ent.enc))), (1, .t (.lst (l.map Ent.enc))), (5, .t (.int .i64 i))], s := ⟨[], 0⟩ }) (fun r i _ => True) 0 () rfl trivial rfl rfl rfl ?_ ?_
  · rintro _ _
    refine fR rfl ?_
    refine lM rfl rfl rfl ?_
    refine fM rfl ?_
    refine Run.condF rfl rfl (by simp) ?_
    refine fR rfl ?_
    refine Run.fin rfl (EndOk.go ?_); exact .t rfl
  · rintro i x r _ h1 hi hd' _ ih
    have hx := ho x (List.mem_of_getElem? h1)
    have hs := sameSels_refl H [x.sel] (by simp) (fun y hy => by rw [List.mem_singleton.1 hy]; exact hx)
    simp only [List.map_cons, List.map_nil, Sel.enc_eq] at hs
    refine fR rfl ?_
    refine lM rfl rfl rfl ?_
    refine fM rfl ?_
    refine Run.condT rfl rfl (by simp; omega) ?_
    refine fR rfl ?_
    refine Mid.elemMap rfl rfl rfl h1 rfl rfl ?_
    refine fM rfl ?_
    refine Mid.elemMap rfl rfl rfl h1 rfl rfl ?_
    refine fM rfl ?_
    rw [show (x.lab == x.lab) = true from by simp]
    refine elG rfl rfl rfl rfl h1 rfl rfl ?_
    refine fM rfl ?_
    refine Mid.ungd rfl rfl rfl ?_
    refine Mid.bslP rfl rfl rfl ?_
    refine fM rfl ?_
    refine elG rfl rfl rfl rfl h1 rfl rfl ?_
    refine fM rfl ?_
    refine Mid.ungd rfl rfl rfl ?_
    refine Mid.bslP rfl rfl rfl ?_
    skip
    refine Mid.ungd rfl rfl rfl ?_
    refine Mid.call (hs) rfl rfl rfl rfl ?_
    refine fM rfl ?_
    refine Run.condF rfl rfl rfl ?_
    refine fR rfl ?_
    refine aL rfl rfl rfl rfl rfl ?_
    refine fM rfl ?_
    exact rWeak 0 rfl (ih () trivial) rfl rfl rfl
end Go.GB.C18


/-
  H18J: chapter 18: small cases; the examples of the chapter.
-/
namespace Go.GB.C18
open Go.GB Go.GB.C11
set_option linter.unusedSimpArgs false
set_option linter.unusedVariables false
set_option maxRecDepth 100000
set_option maxHeartbeats 8000000
variable {P : Program}
def caseV (ds : List Def) (q : Query) (on : Str) (l : List Ent) : V := .agg [.t (.lst (ds.map Def.enc)), .t (.lst (q.ops.map Op.enc)), .t (.lst (q.frags.map Frag.enc)), .t (.str on), .t (.lst (l.map Ent.enc))]
def selQ (l : List Ent) : Query := ⟨[⟨0, [], [], (l.take 101).map Ent.sel⟩], []⟩
def fewF (ds : List Def) (q : Query) (l : List Ent) : Bool := (!largeF ds && !bigF q && decide ((l.length : Int) ≤ 100)) && !bigF (selQ l)
theorem selQ_ok {l : List Ent} (ho : ∀ e, e ∈ l → e.sel.Ok) : (selQ l).Ok := by
  refine ⟨by simp [selQ], fun x hx => ?_, by simp [selQ], fun x hx => by simp [selQ] at hx⟩
  simp only [selQ, List.mem_singleton] at hx
  subst hx
  refine ⟨by simp, by simp, fun y hy => by simp at hy, ?_, fun y hy => ?_⟩
  · simp only [List.length_map, List.length_take]; omega
  · obtain ⟨e, he, rfl⟩ := List.mem_map.1 hy
    exact ho e (List.mem_of_mem_take he)
theorem few_ok (H : Pr18 P) (ds : List Def) (hD : DocOk ds) (q : Query) (hq : q.Ok) (on : Str) (l : List Ent) (hl : l.length ≤ 140737488355328) (ho : ∀ e, e ∈ l → e.sel.Ok) : FnOk P 11 [caseV ds q on l] ⟨[], 0⟩ { v := .t (.bool (fewF ds q l)) } := by
  have hL := large_ok H.toPr ds hD
  have hb := big_ok H q hq
  have hs := big_ok H (selQ l) (selQ_ok ho)
  unfold fewF
  refine FnOk.run H.i11 H.mixed rfl rfl ?_
  refine fR rfl ?_
  refine rList (l.take 101) (fun i (B : List Sel) => { env := [(1, .ptr 0 0), (3, .own 1 7 (B.map Sel.enc)), (4, .t (.int .i64 i))], s := ⟨[(0, .cells [.t (.lst (ds.map Def.enc)), .t (.lst (q.ops.map Op.enc)), .t (.lst (q.frags.map Frag.enc)), .t (.str on), .t (.lst (l.map Ent.enc))]), (1, .arr B.length)], 2⟩ }) (fun r i B => B.length = i ∧ B ++ r.map Ent.sel = (l.take 101).map Ent.sel) 1 [] rfl ⟨rfl, rfl⟩ rfl rfl rfl ?_ ?_
  · rintro B ⟨_, hB⟩
    have e : B = (l.take 101).map Ent.sel := by rw [← hB]; simp
    subst e
    refine fR rfl ?_
    refine lM rfl rfl rfl ?_
    refine fM rfl ?_
    refine Run.condF rfl rfl (by simp; omega) ?_
    refine fR rfl ?_
    refine Mid.call (hL) rfl rfl rfl rfl ?_
    refine fM rfl ?_
    refine caG rfl rfl (fun hg => ⟨_, rfl, hb, rfl⟩) rfl rfl ?_
    refine fM rfl ?_
    refine lMG rfl rfl rfl rfl ?_
    refine fM rfl ?_
    generalize (!largeF ds && !bigF q && decide ((l.length : Int) ≤ 100)) = g
    cases g with
    | false =>
      refine Mid.grdF rfl rfl rfl rfl rfl ?_
      refine Mid.grdF rfl rfl rfl rfl rfl ?_
      refine Mid.grdF rfl rfl rfl rfl rfl ?_
      refine Mid.grdF rfl rfl rfl rfl rfl ?_
      refine fM rfl ?_
      refine Run.fin rfl (EndOk.go ?_); exact .t rfl
    | true =>
      refine Mid.ungd rfl rfl rfl ?_
      refine Mid.bslP rfl rfl rfl ?_
      refine fM rfl ?_
      refine Mid.ungd rfl rfl rfl ?_
      refine Mid.call (hs) rfl rfl rfl rfl ?_
      refine fM rfl ?_
      refine Run.fin rfl (EndOk.go ?_); exact .t rfl
  · rintro i x r B h1 hi hd ⟨hBl, hB⟩ ih
    have hBl' : B.length = i := hBl
    have hi' : i < l.length ∧ i < 101 := by simp at hi; omega
    have h2 : l[i]? = some x := by rw [List.getElem?_take] at h1; split at h1; exact h1; cases h1
    refine fR rfl ?_
    refine lM rfl rfl rfl ?_
    refine fM rfl ?_
    refine Run.condT rfl rfl (by simp; omega) ?_
    refine fR rfl ?_
    refine Mid.elemMap rfl rfl rfl h2 rfl rfl ?_
    refine fM rfl ?_
    refine apM Sel.enc B [x.sel] rfl (congrArg (fun c => some (T.lst [c])) (Sel.enc_eq x.sel).symm) rfl rfl rfl ?_ (hl := fun x => (congrArg List.length (Sel.enc_eq x)).trans rfl)
    refine fM rfl ?_
    refine aL rfl rfl rfl rfl rfl ?_
    refine fM rfl ?_
    exact rWeak 2 rfl (ih (B ++ [x.sel]) ⟨by simp; omega, by rw [← hB]; simp⟩) rfl rfl rfl
theorem selL_true : ∀ (k : Nat) (s : Sel), SizeOf.sizeOf s ≤ k → SelL (fun _ => True) s
  | 0, s, h => by cases s; simp at h
  | k + 1, .mk a b c d e f g, h => .mk (fun _ _ => trivial) fun x hx => selL_true k x (by have h1 := List.sizeOf_lt_of_mem hx; simp only [Sel.mk.sizeOf_spec] at h; omega)
/- the example -/
def kD : List Def := [⟨1, [84], [], [], [], [], []⟩, ⟨3, [85], [], [], [], [], []⟩]
def kL : List Ent := [⟨mkF [] [97], []⟩, ⟨.mk 3 [] [] [84] [] [⟨[100, 101, 102, 101, 114], [⟨[108, 97, 98, 101, 108], .mk 3 0 [120] [] []⟩]⟩] [mkF [98] [99], mkF [] [97]], []⟩, ⟨.mk 3 [] [] [85] [] [] [mkF [] [100]], []⟩]
def kC : CCtx := ⟨kD, ⟨[], []⟩, [84], Val.zero⟩
theorem kRes : (entsF kC 30 kL ⟨[], []⟩).out = [⟨[97], [⟨mkF [] [97], []⟩, ⟨mkF [] [97], [120]⟩]⟩, ⟨[98], [⟨mkF [98] [99], [120]⟩]⟩] := by kernel_rfl
theorem def0_ok (k : Int) (n : Str) (hn : n.length ≤ 140737488355328) : (⟨k, n, [], [], [], [], []⟩ : Def).Ok := ⟨by simp, by simp, by simp, by simp, by simp, by simp, by simp, by simp, by simp, hn, by simp⟩
theorem mkF_sok (a n : Str) (ha : a.length ≤ 1000) (hn : n.length ≤ 1000) : (mkF a n).Ok := .mk (by omega) (by omega) (by simp) (by simp) (by simp) (by simp) (by simp) (by simp) (by simp)
theorem kD_ok : DocOk kD := ⟨by decide, fun y hy => by
    simp only [kD, List.mem_cons, List.not_mem_nil, or_false] at hy
    rcases hy with rfl | rfl
    · exact def0_ok _ _ (by simp)
    · exact def0_ok _ _ (by simp), by decide⟩
theorem kC_ok : COk kC (fun _ => True) [] := ⟨kD_ok, ⟨by decide, by simp [kC], by decide, by simp [kC]⟩, Val.zero_ok, by simp [kC], fun n f l h _ => by simp [kC, findFrag] at h⟩
theorem kL_ok : ∀ e, e ∈ kL → EntOk (fun _ => True) e := by
  intro e he
  refine ⟨?_, selL_true _ _ (Nat.le_refl _), trivial⟩
  simp only [kL, List.mem_cons, List.not_mem_nil, or_false] at he
  rcases he with rfl | rfl | rfl
  · exact mkF_sok _ _ (by simp) (by simp)
  · refine .mk (by simp) (by simp) (by simp) (by simp) (by simp) (by decide) (by simp) ?_ ?_
    · intro x hx
      rw [List.mem_singleton.1 hx]
      refine ⟨⟨by simp, ?_, by simp⟩, ?_⟩
      · intro y hy; rw [List.mem_singleton.1 hy]; exact .mk (by decide) (by decide) (by simp) (by simp) (by simp)
      · intro y hy; rw [List.mem_singleton.1 hy]; simp
    · intro x hx
      simp only [List.mem_cons, List.not_mem_nil, or_false] at hx
      rcases hx with rfl | rfl
      · exact mkF_sok _ _ (by simp) (by simp)
      · exact mkF_sok _ _ (by simp) (by simp)
  · refine .mk (by simp) (by simp) (by simp) (by simp) (by simp) (by decide) (by simp) (by simp) ?_
    intro x hx
    rw [List.mem_singleton.1 hx]; exact mkF_sok _ _ (by simp) (by simp)
def kS : List Dir := [⟨[115, 107, 105, 112], [⟨[105, 102], .mk 7 0 [98] [] []⟩]⟩]
def kY : Val := .mk 6 0 [] [.mk 1 1 [] [] []] [[98]]
theorem kS_ok : DirsOk kS := ⟨by decide, fun x hx => by
    rw [List.mem_singleton.1 hx]
    refine ⟨by simp, ?_, by simp⟩
    intro y hy; rw [List.mem_singleton.1 hy]; exact .mk (by decide) (by decide) (by simp) (by simp) (by simp)⟩
theorem kY_ok : kY.Ok := .mk (by decide) (by decide) (fun x hx => by rw [List.mem_singleton.1 hx]; exact .mk (by decide) (by decide) (by simp) (by simp) (by simp)) (by simp) (by simp)
theorem inc1 : incF kY kS = false := by kernel_rfl
theorem inc2 : incF Val.zero kS = true := by kernel_rfl
theorem lab1 : grpLab [⟨mkF [] [97], []⟩, ⟨mkF [] [97], [120]⟩] = [] := by kernel_rfl
theorem lab2 : grpLab [⟨mkF [98] [99], [120]⟩] = [120] := by kernel_rfl
theorem knows_ok (H : Pr18 P) : FnOk P 8 [] ⟨[], 0⟩ { v := .t (.bool true) } := by
  have hf := fields_ok H kC_ok 30 kL kL_ok (by decide) (by decide) (by decide)
  rw [kRes] at hf
  have h1 := label17_ok H [97] [⟨mkF [] [97], []⟩, ⟨mkF [] [97], [120]⟩] (by decide)
  rw [lab1] at h1
  have h2 := label17_ok H [98] [⟨mkF [98] [99], [120]⟩] (by decide)
  rw [lab2] at h2
  have i1 := included_ok H kS kS_ok kY kY_ok
  rw [inc1] at i1
  have i2 := included_ok H kS kS_ok Val.zero Val.zero_ok
  rw [inc2] at i2
  refine FnOk.run H.i8 H.mixed rfl rfl ?_
  refine fR rfl ?_
  refine Mid.call (mkF_ok H [] [97]) rfl rfl rfl rfl ?_
  refine fM rfl ?_
  refine Mid.call (text_ok H [108, 97, 98, 101, 108] [120]) rfl rfl rfl rfl ?_
  refine fM rfl ?_
  refine Mid.call (mkF_ok H [98] [99]) rfl rfl rfl rfl ?_
  skip
  refine Mid.call (mkF_ok H [] [97]) rfl rfl rfl rfl ?_
  refine fM rfl ?_
  refine Mid.call (mkF_ok H [] [100]) rfl rfl rfl rfl ?_
  refine fM rfl ?_
  refine Mid.call (hf) rfl rfl rfl rfl ?_
  refine fM rfl ?_
  refine lM rfl rfl rfl ?_
  refine fM rfl ?_
  refine gr rfl ?_
  refine fM rfl ?_
  refine gr rfl ?_
  refine fM rfl ?_
  refine lMG rfl rfl rfl rfl ?_
  refine fM rfl ?_
  refine gr rfl ?_
  refine fM rfl ?_
  refine gr rfl ?_
  refine fM rfl ?_
  refine lMG rfl rfl rfl rfl ?_
  refine fM rfl ?_
  refine gr rfl ?_
  refine fM rfl ?_
  refine gr rfl ?_
  refine fM rfl ?_
  refine Run.condF rfl rfl (by decide) ?_
  refine fR rfl ?_
  refine pu rfl ?_
  refine fM rfl ?_
  refine Mid.call (h1) rfl rfl rfl rfl ?_
  refine fM rfl ?_
  refine gr rfl ?_
  refine fM rfl ?_
  refine caG rfl rfl (fun hg => ⟨_, rfl, h2, rfl⟩) rfl rfl ?_
  refine fM rfl ?_
  refine caG rfl rfl (fun hg => ⟨_, rfl, i1, rfl⟩) rfl rfl ?_
  refine fM rfl ?_
  refine caG rfl rfl (fun hg => ⟨_, rfl, i2, rfl⟩) rfl rfl ?_
  refine fM rfl ?_
  refine Run.fin rfl (EndOk.go ?_); exact .t rfl
end Go.GB.C18


/-
  H18K: chapter 18: labels and marks of a case; how much it collects; keys differ.
-/
namespace Go.GB.C18
open Go.GB Go.GB.C11
set_option linter.unusedSimpArgs false
set_option linter.unusedVariables false
set_option maxRecDepth 100000
set_option maxHeartbeats 2000000
/- what entries keep of groups -/
theorem fold_inv {c : CCtx} {Lb : Str → Prop} {Q : List Grp → Prop} {n : Nat} {lab : Str} (ih : ∀ e s, EntOk Lb e → Q s.out → Q (entF c n e s).out) : ∀ (l : List Sel) (s : CSt), (∀ x, x ∈ l → EntOk Lb ⟨x, lab⟩) → Q s.out → Q (l.foldl (fun s x => entF c n ⟨x, lab⟩ s) s).out
  | [], s, _, hq => hq
  | x :: r, s, hl, hq => fold_inv ih r _ (fun y hy => hl y (by simp [hy])) (ih ⟨x, lab⟩ s (hl x (by simp)) hq)
theorem ent_inv {c : CCtx} {Lb : Str → Prop} {U : List (Str × Str × Nat)} (hc : COk c Lb U) {Q : List Grp → Prop} (hQ : ∀ e l, e.sel.Ok → Q l → Q (addF e l)) : ∀ (n : Nat) (e : Ent) (s : CSt), EntOk Lb e → Q s.out → Q (entF c n e s).out
  | 0, e, s, he, hq => hq
  | n + 1, e, s, he, hq => by
    have ih := ent_inv hc hQ n
    simp only [entF]
    split
    · exact hq
    · split
      · split
        · exact fold_inv ih e.sel.sels s (ent_sub he) hq
        · exact hq
      · split
        · split
          · exact hq
          · rename_i f hfr
            split
            · exact fold_inv ih f.sels ⟨s.out, _⟩ (ent_frag hc he hfr) hq
            · exact hq
        · exact hQ e s.out he.s hq
theorem ents_inv {c : CCtx} {Lb : Str → Prop} {U : List (Str × Str × Nat)} (hc : COk c Lb U) {Q : List Grp → Prop} (hQ : ∀ e l, e.sel.Ok → Q l → Q (addF e l)) (n : Nat) : ∀ (l : List Ent) (s : CSt), (∀ e, e ∈ l → EntOk Lb e) → Q s.out → Q (entsF c n l s).out
  | [], s, _, hq => hq
  | x :: r, s, hl, hq => ents_inv hc hQ n r _ (fun y hy => hl y (by simp [hy])) (ent_inv hc hQ n x s (hl x (by simp)) hq)
theorem ents_post {c : CCtx} {Lb : Str → Prop} {U : List (Str × Str × Nat)} (hc : COk c Lb U) (n : Nat) : ∀ (l : List Ent) (s : CSt), (∀ e, e ∈ l → EntOk Lb e) → Full s.out → Post c U s (entsF c n l s) (entsN l)
  | [], s, _, hf => .refl hf
  | x :: r, s, hl, hf => by
    have h1 := ent_post hc n x s (hl x (by simp)) hf
    have h2 := ents_post hc n r (entF c n x s) (fun y hy => hl y (by simp [hy])) h1.f
    have := h1.trans h2
    simp only [entsN]; exact this
def GOk (l : List Grp) : Prop := ∀ g, g ∈ l → ∀ e, e ∈ g.list → e.sel.Ok
theorem GOk.add : ∀ (e : Ent) (l : List Grp), e.sel.Ok → GOk l → GOk (addF e l)
  | e, [], he, _ => by intro g hg x hx; simp [addF] at hg; subst hg; simp at hx; subst hx; exact he
  | e, y :: r, he, h => by
    intro g hg x hx
    simp only [addF] at hg
    split at hg
    · rcases List.mem_cons.1 hg with rfl | hg
      · rcases List.mem_append.1 hx with hx | hx
        · exact h y (by simp) x hx
        · rw [List.mem_singleton.1 hx]; exact he
      · exact h g (by simp [hg]) x hx
    · rcases List.mem_cons.1 hg with rfl | hg
      · exact h _ (by simp) x hx
      · exact GOk.add e r he (fun z hz => h z (by simp [hz])) g hg x hx
/-- no two groups have the same key -/
def Dk (l : List Grp) : Prop := (l.map Grp.key).Nodup
theorem add_keys (e : Ent) : ∀ l : List Grp, (addF e l).map Grp.key = if keyF e.sel ∈ l.map Grp.key then l.map Grp.key else l.map Grp.key ++ [keyF e.sel]
  | [] => by simp [addF]
  | g :: r => by
    have ih := add_keys e r
    simp only [addF]
    by_cases h : g.key = keyF e.sel
    · simp [h]
    · rw [if_neg h]
      simp only [List.map_cons, ih, List.mem_cons]
      have h' : ¬ keyF e.sel = g.key := fun e => h e.symm
      by_cases h2 : keyF e.sel ∈ r.map Grp.key
      · simp [h2]
      · simp [h2, h']
theorem Dk.add (e : Ent) (l : List Grp) (_ : e.sel.Ok) (h : Dk l) : Dk (addF e l) := by
  unfold Dk at *
  rw [add_keys]
  split
  · exact h
  · rename_i hn
    rw [List.nodup_append]
    exact ⟨h, by simp, fun a ha b hb => by rw [List.mem_singleton.1 hb]; rintro rfl; exact hn ha⟩

/- labels -/
def labsD (l : List Dir) : List Str := l.map fun x => (labV x).text
theorem labF_mem (o : Str) : ∀ l : List Dir, labF o l = o ∨ labF o l ∈ labsD l
  | [] => .inl rfl
  | x :: r => by
    simp only [labF, labsD, List.map_cons]
    split
    · split
      · right; simp
      · left; rfl
    · rcases labF_mem o r with h | h
      · exact .inl h
      · right; exact List.mem_cons_of_mem _ h
mutual
def labsS : Sel → List Str
  | .mk _ _ _ _ _ ds ss => labsD ds ++ labsSs ss
def labsSs : List Sel → List Str
  | [] => []
  | x :: r => labsS x ++ labsSs r
end
theorem labsSs_mem {x : Sel} : ∀ {l : List Sel}, x ∈ l → ∀ s, s ∈ labsS x → s ∈ labsSs l
  | [], h, s, _ => by simp at h
  | y :: r, h, s, hs => by
    simp only [labsSs, List.mem_append]
    rcases List.mem_cons.1 h with rfl | h
    · exact .inl hs
    · exact .inr (labsSs_mem h s hs)
theorem selL_of {L : List Str} : ∀ (k : Nat) (s : Sel), SizeOf.sizeOf s ≤ k → (∀ x, x ∈ labsS s → x ∈ L) → SelL (· ∈ L) s
  | 0, s, h, _ => by cases s; simp at h
  | k + 1, .mk a b c d e f g, h, hL => .mk (fun o ho => by
      rcases labF_mem o f with h1 | h1
      · rw [h1]; exact ho
      · exact hL _ (by simp only [labsS, List.mem_append]; exact .inl h1)) fun x hx => selL_of k x (by have h1 := List.sizeOf_lt_of_mem hx; simp only [Sel.mk.sizeOf_spec] at h; omega) fun y hy => hL y (by simp only [labsS, List.mem_append]; exact .inr (labsSs_mem hx y hy))
def labsC (q : Query) (l : List Ent) : List Str := (l.flatMap fun e => e.lab :: labsS e.sel) ++ q.frags.flatMap fun f => labsSs f.sels
def marksC (L : List Str) (fs : List Frag) : List (Str × Str × Nat) := fs.flatMap fun f => L.map fun l => (f.name, l, selsN f.sels + 1)
def frN : List Frag → Nat
  | [] => 0
  | f :: r => selsN f.sels + 1 + frN r
theorem phi_app (q : Query) (d : List (Str × Str)) : ∀ (a b : List (Str × Str × Nat)), phi q d (a ++ b) = phi q d a + phi q d b
  | [], b => by simp [phi]
  | x :: r, b => by simp only [List.cons_append, phi, phi_app q d r b]; omega
theorem phi_row (q : Query) (n : Str) (w : Nat) : ∀ L : List Str, phi q [] (L.map fun l => (n, l, w)) = L.length * w
  | [] => by simp [phi]
  | x :: r => by
    have := phi_row q n w r
    simp only [List.map_cons, phi, this, List.not_mem_nil, if_false, List.length_cons]
    rw [Nat.add_mul]; omega
theorem phi_marks (q : Query) (L : List Str) : ∀ fs : List Frag, phi q [] (marksC L fs) = L.length * frN fs
  | [] => by simp [marksC, phi, frN]
  | f :: r => by
    have ih := phi_marks q L r
    unfold marksC at ih ⊢
    simp only [List.flatMap_cons, phi_app, phi_row, ih, frN]
    rw [← Nat.mul_add]
theorem findFrag_name {n : Str} : ∀ {l : List Frag} {f : Frag}, findFrag n l = some f → f.name = n
  | [], f, h => by simp [findFrag] at h
  | x :: r, f, h => by
    simp only [findFrag] at h
    split at h
    · rename_i hx; simp at h; subst h; simpa using hx
    · exact findFrag_name h

/- bulk -/
theorem dirs_bulk2 : ∀ l : List Dir, 2 * l.length ≤ bulkLL (l.map Dir.enc)
  | [] => by simp
  | d :: r => by
    have := dirs_bulk2 r
    simp only [List.map_cons, bulkLL, Dir.enc, bulkL, T.bulk, List.length_cons]; omega
theorem sel_bulk : ∀ (k : Nat), (∀ s : Sel, SizeOf.sizeOf s ≤ k → 2 * (labsS s).length + selN s + 6 ≤ bulkL s.enc) ∧ ∀ l : List Sel, SizeOf.sizeOf l ≤ k → 2 * (labsSs l).length + selsN l ≤ bulkLL (l.map Sel.enc)
  | 0 => ⟨fun s h => by cases s; simp at h, fun l h => by cases l <;> simp at h⟩
  | k + 1 => by
    have ih := sel_bulk k
    refine ⟨fun s h => ?_, fun l h => ?_⟩
    · cases s with
      | mk a b c d e f g =>
        have h1 := ih.2 g (by simp only [Sel.mk.sizeOf_spec] at h; omega)
        have h2 := dirs_bulk2 f
        simp only [labsS, labsD, selN, Sel.enc, Sel.encs_map, bulkL, T.bulk, List.length_append, List.length_map]
        omega
    · cases l with
      | nil => simp [labsSs, selsN, bulkLL]
      | cons x r =>
        have h1 := ih.1 x (by simp only [List.cons.sizeOf_spec] at h; omega)
        have h2 := ih.2 r (by simp only [List.cons.sizeOf_spec] at h; omega)
        simp only [labsSs, selsN, List.map_cons, bulkLL, List.length_append]; omega
theorem sels_bulk (l : List Sel) : 2 * (labsSs l).length + selsN l ≤ bulkLL (l.map Sel.enc) := (sel_bulk _).2 l (Nat.le_refl _)
theorem ent_bulk (e : Ent) : 2 * ((labsS e.sel).length + 1) + selN e.sel ≤ bulkL e.enc := by
  have h := (sel_bulk _).1 e.sel (Nat.le_refl _)
  have : bulkL e.enc = bulkL e.sel.enc + (e.lab.length + 1) := by
    rw [Sel.enc_eq]
    simp only [Ent.enc, Sel.cs, bulkL, T.bulk]; omega
  omega
theorem ents_bulk : ∀ l : List Ent, 2 * (l.flatMap fun e => e.lab :: labsS e.sel).length + entsN l ≤ bulkLL (l.map Ent.enc)
  | [] => by simp [entsN, bulkLL]
  | e :: r => by
    have h1 := ent_bulk e
    have h2 := ents_bulk r
    simp only [List.flatMap_cons, List.length_append, List.length_cons, entsN, List.map_cons, bulkLL]
    omega
theorem frags_bulk2 : ∀ fs : List Frag, 2 * (fs.flatMap fun f => labsSs f.sels).length + frN fs ≤ bulkLL (fs.map Frag.enc)
  | [] => by simp [frN, bulkLL]
  | f :: r => by
    have h1 := sels_bulk f.sels
    have h2 := frags_bulk2 r
    simp only [List.flatMap_cons, List.length_append, frN, List.map_cons, bulkLL, Frag.enc, bulkL, T.bulk]
    omega
theorem prod_bound {D S : Nat} (h : 2 * D + S ≤ 1048576) : D * S ≤ 274877906944 := by
  by_cases h1 : D ≤ 262144
  · exact Nat.le_trans (Nat.mul_le_mul h1 (by omega : S ≤ 1048576)) (by decide)
  · exact Nat.le_trans (Nat.mul_le_mul (by omega : D ≤ 524288) (by omega : S ≤ 524288)) (by decide)
/-- a case of bounded bulk -/
theorem case_ok {c : CCtx} (hd : DocOk c.ds) (hq : c.q.Ok) (hv : c.vars.Ok) {l : List Ent} (hl : ∀ e, e ∈ l → e.sel.Ok) (hb : bulkLL (c.q.frags.map Frag.enc) + bulkLL (l.map Ent.enc) ≤ 1048576) :
    COk c (· ∈ labsC c.q l) (marksC (labsC c.q l) c.q.frags) ∧ (∀ e, e ∈ l → EntOk (· ∈ labsC c.q l) e) ∧ phi c.q [] (marksC (labsC c.q l) c.q.frags) + entsN l ≤ 549755813888 := by
  refine ⟨⟨hd, hq, hv, fun f hf x hx => selL_of _ x (Nat.le_refl _) fun y hy => ?_, fun n f lb hf hlb => ?_⟩, fun e he => ⟨hl e he, selL_of _ e.sel (Nat.le_refl _) fun y hy => ?_, ?_⟩, ?_⟩
  · simp only [labsC, List.mem_append, List.mem_flatMap]
    exact .inr ⟨f, hf, labsSs_mem hx y hy⟩
  · have h1 := findFrag_mem hf
    have h2 := findFrag_name hf
    simp only [marksC, List.mem_flatMap, List.mem_map]
    exact ⟨f, h1, lb, hlb, by rw [h2]⟩
  · simp only [labsC, List.mem_append, List.mem_flatMap]
    exact .inl ⟨e, he, List.mem_cons_of_mem _ hy⟩
  · simp only [labsC, List.mem_append, List.mem_flatMap]
    exact .inl ⟨e, he, by simp⟩
  · have h1 := ents_bulk l
    have h2 := frags_bulk2 c.q.frags
    have h3 : 2 * (labsC c.q l).length + frN c.q.frags + entsN l ≤ 1048576 := by
      simp only [labsC, List.length_append]; omega
    have h4 := prod_bound (D := (labsC c.q l).length) (S := frN c.q.frags) (by omega)
    rw [phi_marks]; omega
end Go.GB.C18


/-
  H18L: chapter 18: the laws of Included, Label, and of the type condition; Fields and the reference.
-/
namespace Go.GB.C18
open Go.GB Go.GB.C11
set_option linter.unusedSimpArgs false
set_option linter.unusedVariables false
set_option maxRecDepth 100000
set_option maxHeartbeats 8000000
variable {P : Program}
theorem nodup_at {l : List Grp} (h : Dk l) {i j : Nat} {x y : Grp} (hi : l[i]? = some x) (hj : l[j]? = some y) (hlt : j < i) : ¬ y.key = x.key := by
  have h2 := List.pairwise_iff_getElem.1 h j i
  obtain ⟨a1, a2⟩ := List.getElem?_eq_some_iff.1 hi
  obtain ⟨b1, b2⟩ := List.getElem?_eq_some_iff.1 hj
  have := h2 (by simpa using b1) (by simpa using a1) hlt
  simpa [a2, b2] using this
theorem law_fields (H : Pr18 P) (ds : List Def) (hD : DocOk ds) (q : Query) (hq : q.Ok) (on : Str) (vars : Val) (hv : vars.Ok) (l : List Ent) (hl : l.length * 144 ≤ 140737488355328) (ho : ∀ e, e ∈ l → e.sel.Ok) (hb : bulkLL (q.frags.map Frag.enc) + bulkLL (l.map Ent.enc) ≤ 1048576) : FnOk P 4 [caseV ds q on l, vars.v] ⟨[], 0⟩ { v := .t (.bool true) } := by
  obtain ⟨k1, k2, k3⟩ := case_ok (c := ⟨ds, q, on, vars⟩) hD hq hv ho hb
  have hf := fields_ok H k1 _ l k2 (by omega) (Nat.le_of_eq (Nat.add_comm _ _)) k3
  have hr := rfields_ok H k1 _ l k2 (by omega) (Nat.le_of_eq (Nat.add_comm _ _)) k3
  have hF0 : Full ([] : List Grp) := fun g hg => by cases hg
  have hp := ents_post k1 (phi q [] (marksC (labsC q l) q.frags) + entsN l) l ⟨[], []⟩ k2 hF0
  have hG := ents_inv k1 (Q := GOk) GOk.add (phi q [] (marksC (labsC q l) q.frags) + entsN l) l ⟨[], []⟩ k2 (fun g hg => by cases hg)
  have hK := ents_inv k1 (Q := Dk) Dk.add (phi q [] (marksC (labsC q l) q.frags) + entsN l) l ⟨[], []⟩ k2 (by simp [Dk])
  have hn := hp.n
  have hF := hp.f
  simp only at hf hr k3 hn
  generalize (entsF ⟨ds, q, on, vars⟩ (phi q [] (marksC (labsC q l) q.frags) + entsN l) l ⟨[], []⟩).out = G at *
  have hcnt : cnt G ≤ 549755813888 := by simp only [cnt] at hn; omega
  have hGl := hF.len
  refine FnOk.run H.i4 H.mixed rfl rfl ?_
  refine fR rfl ?_
  refine Mid.call (few_ok H ds hD q hq on l (by omega) ho) rfl rfl rfl rfl ?_
  refine fM rfl ?_
  refine Run.cond rfl rfl (fun hw => ?_) (fun hw => ?_)
  · refine fR rfl ?_
    refine Mid.call (knows_ok H) rfl rfl rfl rfl ?_
    refine fM rfl ?_
    refine Run.fin rfl (EndOk.go ?_); exact .t rfl
  refine fR rfl ?_
  refine Mid.call (entries_ok H l hl) rfl rfl rfl rfl ?_
  refine fM rfl ?_
  refine Mid.call (hf) rfl rfl rfl rfl ?_
  refine fM rfl ?_
  refine Mid.call (hr) rfl rfl rfl rfl ?_
  refine fM rfl ?_
  refine lM rfl rfl rfl ?_
  refine fM rfl ?_
  refine lM rfl rfl rfl ?_
  refine fM rfl ?_
  refine Run.condF rfl rfl (by simp) ?_
  refine fR rfl ?_
  refine rList G (fun i (_ : Unit) => { env := [(5, .t (.lst (G.map Grp.enc))), (6, .t (.lst (G.map Grp.enc))), (7, .t (.int .i64 i))], s := ⟨[], 0⟩ }) (fun r i _ => True) 0 () rfl trivial rfl rfl rfl ?_ ?_
  · rintro _ _
    refine fR rfl ?_
    refine lM rfl rfl rfl ?_
    refine fM rfl ?_
    refine Run.condF rfl rfl (by simp) ?_
    refine fR rfl ?_
    refine Mid.call (knows_ok H) rfl rfl rfl rfl ?_
    refine fM rfl ?_
    refine Run.fin rfl (EndOk.go ?_); exact .t rfl
  · rintro i x r _ h1 hi hd _ ih
    have hxm := List.mem_of_getElem? h1
    have hxc := cnt_mem hxm
    have hx0 := hF x hxm
    refine fR rfl ?_
    refine lM rfl rfl rfl ?_
    refine fM rfl ?_
    refine Run.condT rfl rfl (by simp; omega) ?_
    refine fR rfl ?_
    refine Mid.elemMap rfl rfl rfl h1 rfl rfl ?_
    refine fM rfl ?_
    refine Mid.elemMap rfl rfl rfl h1 rfl rfl ?_
    refine fM rfl ?_
    refine elG rfl rfl rfl rfl h1 rfl rfl ?_
    refine fM rfl ?_
    refine caG rfl rfl (fun hg => ⟨_, rfl, plain_ok H x.list (by omega), rfl⟩) rfl rfl ?_
    refine fM rfl ?_
    refine elG rfl rfl rfl rfl h1 rfl rfl ?_
    refine fM rfl ?_
    refine caG rfl rfl (fun hg => ⟨_, rfl, sameE_refl H x.list (by omega) (hG x hxm), rfl⟩) rfl rfl ?_
    refine fM rfl ?_
    refine elG rfl rfl rfl rfl h1 rfl rfl ?_
    refine fM rfl ?_
    refine lMG rfl rfl rfl rfl ?_
    refine fM rfl ?_
    refine Run.condF rfl rfl (by simp; exact hx0) ?_
    refine fR rfl ?_
    refine rList (G.take i) (fun j (_ : Unit) => { env := [(5, .t (.lst (G.map Grp.enc))), (6, .t (.lst (G.map Grp.enc))), (7, .t (.int .i64 i)), (8, .t (.int .i64 j))], s := ⟨[], 0⟩ }) (fun r j _ => True) 0 () rfl trivial rfl rfl rfl ?_ ?_
    · rintro _ _
      refine fR rfl ?_
      refine Run.condF rfl rfl (by simp; omega) ?_
      refine fR rfl ?_
      refine aL rfl rfl rfl rfl rfl ?_
      refine fM rfl ?_
      exact rWeak 0 rfl (ih () trivial) rfl rfl rfl
    · rintro j y rj _ g1 gj gd _ ihj
      have hj' : j < i := by simp at gj; omega
      have g2 : G[j]? = some y := by rw [List.getElem?_take, if_pos hj'] at g1; exact g1
      have hne := nodup_at hK h1 g2 hj'
      refine fR rfl ?_
      refine Run.condT rfl rfl (by simp; omega) ?_
      refine fR rfl ?_
      refine Mid.elemMap rfl rfl rfl g2 rfl rfl ?_
      refine fM rfl ?_
      refine Mid.elemMap rfl rfl rfl h1 rfl rfl ?_
      refine fM rfl ?_
      refine Run.condF rfl rfl (by simp [hne]) ?_
      refine fR rfl ?_
      refine aL rfl rfl rfl rfl rfl ?_
      refine fM rfl ?_
      exact rWeak 0 rfl (ihj () trivial) rfl rfl rfl
end Go.GB.C18


/-
  H18M: chapter 18: the law of the type condition.
-/
namespace Go.GB.C18
open Go.GB Go.GB.C11
set_option linter.unusedSimpArgs false
set_option linter.unusedVariables false
set_option maxRecDepth 100000
set_option maxHeartbeats 8000000
variable {P : Program}
end Go.GB.C18


/-
  D11R: shapes of chapter 11's arguments.
-/
namespace Go.GB.C11
open Go.GB

end Go.GB.C11


/-
  E13P: shapes of documents, as laws are handed them.
-/
namespace Go.GB
open Go.RowKit
set_option linter.unusedSimpArgs false
set_option linter.unusedVariables false

mutual
def Sh.low : Sh → Bool
  | .num i => i == 0
  | .lst _ s => Sh.lows s
  | _ => true
def Sh.lows : List Sh → Bool
  | [] => true
  | s :: r => s.low && Sh.lows r
end
mutual
theorem Sh.ok_mono {Y Z : Nat → T → Prop} (h : ∀ x, Y 0 x → Z 0 x) : ∀ (s : Sh) (x : T), s.low = true → s.ok Y x → s.ok Z x
  | .num i, x, hl, hx => by
    simp only [Sh.low, beq_iff_eq] at hl
    subst hl
    exact h x hx
  | .lst b s, x, hl, hx => by
    obtain ⟨xs, h1, h2, h3, h4⟩ := hx
    exact ⟨xs, h1, h2, h3, fun c hc => Sh.oks_mono h s c (by simpa [Sh.low] using hl) (h4 c hc)⟩
  | .int k, x, hl, hx => hx
  | .str, x, hl, hx => hx
  | .bool, x, hl, hx => hx
  | .any, x, hl, hx => hx
theorem Sh.oks_mono {Y Z : Nat → T → Prop} (h : ∀ x, Y 0 x → Z 0 x) : ∀ (s : List Sh) (c : List T), Sh.lows s = true → Sh.oks Y s c → Sh.oks Z s c
  | [], [], _, _ => trivial
  | [], x :: c, _, hx => by simp [Sh.oks] at hx
  | s :: r, [], _, hx => by simp [Sh.oks] at hx
  | s :: r, x :: c, hl, hx => by
    simp only [Sh.lows, Bool.and_eq_true] at hl
    simp only [Sh.oks] at hx ⊢
    exact ⟨Sh.ok_mono h s x hl.1 hx.1, Sh.oks_mono h r c hl.2 hx.2⟩
end
/-- lists of values, lists of selections -/
def YS : Nat → T → Prop
  | 0, x => YA 0 x
  | _, x => ∃ l : List Sel, x = .lst (l.map Sel.enc) ∧ l.length * 128 ≤ B47 ∧ ∀ v ∈ l, v.Ok
def selSh : List Sh := [.int .i64, .str, .str, .str, .lst 96 argSh, .lst 40 dirSh, .num 1]
def varSh : List Sh := [.str] ++ refSh ++ [.bool] ++ valSh
def opSh : List Sh := [.int .i64, .str, .lst 144 varSh, .num 1]
def fragSh : List Sh := [.str, .str, .num 1]
def querySh : List Sh := [.lst 72 opSh, .lst 56 fragSh]
theorem YS.low {x : T} (h : YS 0 x) : YA 0 x := h
theorem argN_sh {c : List T} (h : Sh.oks YA argSh c) : ∃ a : Arg, c = a.enc ∧ (a.Ok ∧ a.name.length ≤ 140737488355328) := by
  have := reach_le
  obtain ⟨x, c, rfl, ⟨n, rfl, hn⟩, g1⟩ := Sh.oks_cons h
  obtain ⟨v, c', rfl, h1, h2⟩ := val_sh (r := []) (by simpa using g1)
  obtain rfl := Sh.oks_nil h2
  exact ⟨⟨n, v⟩, by simp [Arg.enc, Val.cs], h1, by show n.length ≤ _; omega⟩
theorem dirN_sh {c : List T} (h : Sh.oks YA dirSh c) : ∃ a : Dir, c = a.enc ∧ (a.Ok ∧ ∀ y, y ∈ a.args → y.name.length ≤ 140737488355328) := by
  have := reach_le
  obtain ⟨x, c, rfl, ⟨n, rfl, hn⟩, g1⟩ := Sh.oks_cons h
  obtain ⟨x, c, rfl, hx, g2⟩ := Sh.oks_cons g1
  obtain rfl := Sh.oks_nil g2
  obtain ⟨l, rfl, h1, _, h2⟩ := list_of (fun c hc => argN_sh hc) hx
  exact ⟨⟨n, l⟩, rfl, ⟨by show l.length ≤ _; omega, fun y hy => (h2 y hy).1, by show n.length ≤ _; omega⟩, fun y hy => (h2 y hy).2⟩
theorem sel_sh {c : List T} (h : Sh.oks YS selSh c) : ∃ s : Sel, c = s.enc ∧ s.Ok := by
  have := reach_le
  obtain ⟨x, c, rfl, ⟨k, rfl, _⟩, g1⟩ := Sh.oks_cons h
  obtain ⟨x, c, rfl, ⟨al, rfl, h1⟩, g2⟩ := Sh.oks_cons g1
  obtain ⟨x, c, rfl, ⟨n, rfl, h2⟩, g3⟩ := Sh.oks_cons g2
  obtain ⟨x, c, rfl, ⟨o, rfl, h3⟩, g4⟩ := Sh.oks_cons g3
  obtain ⟨x, c, rfl, hx, g5⟩ := Sh.oks_cons g4
  obtain ⟨as, rfl, a1, _, a2⟩ := list_of (fun c hc => argN_sh hc) (Sh.ok_mono (Y := YS) (Z := YA) (fun _ h => h) _ _ (by decide) hx)
  obtain ⟨x, c, rfl, hx, g6⟩ := Sh.oks_cons g5
  obtain ⟨ds, rfl, d1, _, d2⟩ := list_of (fun c hc => dirN_sh hc) (Sh.ok_mono (Y := YS) (Z := YA) (fun _ h => h) _ _ (by decide) hx)
  obtain ⟨x, c, rfl, ⟨ss, rfl, s1, s2⟩, g7⟩ := Sh.oks_cons g6
  obtain rfl := Sh.oks_nil g7
  exact ⟨.mk k al n o as ds ss, by rw [Sel.enc_eq]; rfl, .mk (by omega) (by omega) (by omega) (by unfold B47; omega) (by omega) s1 a2 d2 s2⟩
def spS (vt st : TypeId) (e : TypeId) : Option Nat := if e = vt then some 0 else if e = st then some 1 else none
theorem sel_wt {P : Program} {vt st : TypeId} (hb : P.bytesOf vt = 80) (hs : shOf P (spV vt) 6 vt = some valSh) (hbs : P.bytesOf st = 128) (hss : shOf P (spS vt st) 12 st = some selSh) : ∀ (n : Nat) (c : List T), WT P n st c → ∃ s : Sel, c = s.enc ∧ s.Ok := by
  have hv := val_wt hb hs
  intro n
  induction n using Nat.strongRecOn with
  | _ n ih =>
    intro c h
    refine sel_sh (shOf_ok (Y := YS) n 12 st selSh c (fun e i k xs hk he hr hl hc => ?_) hss h)
    have := reach_le
    unfold spS at he
    split at he
    · rename_i e1; subst e1
      simp only [Option.some.injEq] at he; subst he
      obtain ⟨l, rfl, h3⟩ := choose_map (f := Val.enc) (Q := Val.Ok) xs fun c hcm => hv k c (hc c hcm)
      rw [hb] at hr
      exact ⟨l, rfl, by unfold B47; simp at hr; omega, h3⟩
    · split at he
      · rename_i _ e1; subst e1
        simp only [Option.some.injEq] at he; subst he
        obtain ⟨l, rfl, h3⟩ := choose_map (f := Sel.enc) (Q := Sel.Ok) xs fun c hcm => ih k hk c (hc c hcm)
        rw [hbs] at hr
        exact ⟨l, rfl, by unfold B47; simp at hr; omega, h3⟩
      · cases he
theorem spS_ok {P : Program} {vt st : TypeId} (hb : P.bytesOf vt = 80) (hs : shOf P (spV vt) 6 vt = some valSh) (hbs : P.bytesOf st = 128) (hss : shOf P (spS vt st) 12 st = some selSh) :
    ∀ e i n xs, spS vt st e = some i → xs.length * P.bytesOf e ≤ reachBytes → xs.length ≤ maxLen → (∀ c ∈ xs, WT P n e c) → YS i (.lst xs) := by
  have hv := val_wt hb hs
  have hp := sel_wt hb hs hbs hss
  intro e i k xs he hr hl hc
  have := reach_le
  unfold spS at he
  split at he
  · rename_i e1; subst e1
    simp only [Option.some.injEq] at he; subst he
    obtain ⟨l, rfl, h3⟩ := choose_map (f := Val.enc) (Q := Val.Ok) xs fun c hcm => hv k c (hc c hcm)
    rw [hb] at hr
    exact ⟨l, rfl, by unfold B47; simp at hr; omega, h3⟩
  · split at he
    · rename_i _ e1; subst e1
      simp only [Option.some.injEq] at he; subst he
      obtain ⟨l, rfl, h3⟩ := choose_map (f := Sel.enc) (Q := Sel.Ok) xs fun c hcm => hp k c (hc c hcm)
      rw [hbs] at hr
      exact ⟨l, rfl, by unfold B47; simp at hr; omega, h3⟩
    · cases he
theorem var_sh {c : List T} (h : Sh.oks YA varSh c) : ∃ a : Var, c = a.enc ∧ a.Ok := by
  have := reach_le
  obtain ⟨x, c, rfl, ⟨n, rfl, hn⟩, g1⟩ := Sh.oks_cons h
  obtain ⟨t, c, rfl, ht, g2⟩ := ref_sh g1
  obtain ⟨x, c, rfl, ⟨b, rfl⟩, g3⟩ := Sh.oks_cons g2
  obtain ⟨v, c, rfl, hv, g4⟩ := val_sh (r := []) (by simpa using g3)
  obtain rfl := Sh.oks_nil g4
  exact ⟨⟨n, t, b, v⟩, by simp [Var.enc, Val.cs], ⟨by show n.length ≤ _; omega, ht, hv⟩⟩
theorem op_sh {c : List T} (h : Sh.oks YS opSh c) : ∃ a : Op, c = a.enc ∧ a.Ok := by
  have := reach_le
  obtain ⟨x, c, rfl, ⟨k, rfl, _⟩, g1⟩ := Sh.oks_cons h
  obtain ⟨x, c, rfl, ⟨n, rfl, h1⟩, g2⟩ := Sh.oks_cons g1
  obtain ⟨x, c, rfl, hx, g3⟩ := Sh.oks_cons g2
  obtain ⟨vs, rfl, v1, _, v2⟩ := list_of (fun c hc => var_sh hc) (Sh.ok_mono (Y := YS) (Z := YA) (fun _ h => h) _ _ (by decide) hx)
  obtain ⟨x, c, rfl, ⟨ss, rfl, s1, s2⟩, g4⟩ := Sh.oks_cons g3
  obtain rfl := Sh.oks_nil g4
  unfold B47 at s1
  exact ⟨⟨k, n, vs, ss⟩, rfl, ⟨by show n.length ≤ _; omega, by show vs.length ≤ _; omega, v2, s1, s2⟩⟩
theorem frag_sh {c : List T} (h : Sh.oks YS fragSh c) : ∃ a : Frag, c = a.enc ∧ a.Ok := by
  have := reach_le
  obtain ⟨x, c, rfl, ⟨n, rfl, h1⟩, g2⟩ := Sh.oks_cons h
  obtain ⟨x, c, rfl, ⟨o, rfl, h2⟩, g3⟩ := Sh.oks_cons g2
  obtain ⟨x, c, rfl, ⟨ss, rfl, s1, s2⟩, g4⟩ := Sh.oks_cons g3
  obtain rfl := Sh.oks_nil g4
  unfold B47 at s1
  exact ⟨⟨n, o, ss⟩, rfl, ⟨by show n.length ≤ _; omega, by show o.length ≤ _; omega, s1, s2⟩⟩
theorem query_sh {r : List Sh} {c : List T} (h : Sh.oks YS (querySh ++ r) c) : ∃ (q : Query) (c' : List T), c = .lst (q.ops.map Op.enc) :: .lst (q.frags.map Frag.enc) :: c' ∧ q.Ok ∧ Sh.oks YS r c' := by
  have := reach_le
  obtain ⟨x, c, rfl, hx, g1⟩ := Sh.oks_cons h
  obtain ⟨os, rfl, o1, _, o2⟩ := list_of (fun c hc => op_sh hc) hx
  obtain ⟨x, c, rfl, hx, g2⟩ := Sh.oks_cons g1
  obtain ⟨fs, rfl, f1, _, f2⟩ := list_of (fun c hc => frag_sh hc) hx
  exact ⟨⟨os, fs⟩, c, rfl, ⟨by show os.length ≤ _; omega, o2, by show fs.length * 56 ≤ _; omega, f2⟩, g2⟩
theorem docS_sh0 {c : List T} (h : Sh.oks YS docSh c) : ∃ l : List Def, c = [.lst (l.map Def.enc)] ∧ DocOk l :=
  doc_sh0 (Sh.oks_mono (Y := YS) (Z := YA) (fun _ h => h) _ _ (by decide) h)
end Go.GB


/-
  H18N: chapter 18: shapes of its arguments.
-/
namespace Go.GB.C18
open Go.GB Go.GB.C11
set_option linter.unusedSimpArgs false
set_option linter.unusedVariables false
theorem valS_sh0 {c : List T} (h : Sh.oks YS valSh c) : ∃ v : Val, c = v.cs ∧ v.Ok := by
  obtain ⟨v, rfl, h1⟩ := val_sh0 (Sh.oks_mono (Y := YS) (Z := YA) (fun _ h => h) _ _ (by decide) h)
  exact ⟨v, Val.enc_eq v, h1⟩
def entSh : List Sh := selSh ++ [.str]
theorem ent_sh {c : List T} (h : Sh.oks YS entSh c) : ∃ e : Ent, c = e.enc ∧ e.sel.Ok := by
  have := reach_le
  obtain ⟨x1, c, rfl, a1, h1⟩ := Sh.oks_cons h
  obtain ⟨x2, c, rfl, a2, h2⟩ := Sh.oks_cons h1
  obtain ⟨x3, c, rfl, a3, h3⟩ := Sh.oks_cons h2
  obtain ⟨x4, c, rfl, a4, h4⟩ := Sh.oks_cons h3
  obtain ⟨x5, c, rfl, a5, h5⟩ := Sh.oks_cons h4
  obtain ⟨x6, c, rfl, a6, h6⟩ := Sh.oks_cons h5
  obtain ⟨x7, c, rfl, a7, h7⟩ := Sh.oks_cons h6
  obtain ⟨x, c, rfl, ⟨l, rfl, hl⟩, g⟩ := Sh.oks_cons h7
  obtain rfl := Sh.oks_nil g
  obtain ⟨s, hs, ho⟩ := sel_sh (c := [x1, x2, x3, x4, x5, x6, x7]) ⟨a1, a2, a3, a4, a5, a6, a7, trivial⟩
  refine ⟨⟨s, l⟩, ?_, ho⟩
  rw [Sel.enc_eq] at hs
  simp only [Sel.cs, List.cons.injEq] at hs
  obtain ⟨rfl, rfl, rfl, rfl, rfl, rfl, rfl, _⟩ := hs
  rfl
def caseSh : List Sh := [.lst 144 defSh] ++ (querySh ++ [.str, .lst 144 entSh])
theorem case_sh0 {c : List T} (h : Sh.oks YS caseSh c) : ∃ (ds : List Def) (q : Query) (on : Str) (l : List Ent), c = [.lst (ds.map Def.enc), .lst (q.ops.map Op.enc), .lst (q.frags.map Frag.enc), .str on, .lst (l.map Ent.enc)] ∧ (DocOk ds ∧ q.Ok) ∧ l.length * 144 ≤ 140737488355328 ∧ ∀ e, e ∈ l → e.sel.Ok := by
  have := reach_le
  obtain ⟨x, c, rfl, hx, g1⟩ := Sh.oks_cons h
  obtain ⟨ds, e, hD⟩ := docS_sh0 (c := [x]) ⟨hx, trivial⟩
  obtain rfl : x = _ := by simpa using e
  obtain ⟨q, c, rfl, hq, g2⟩ := query_sh (r := [.str, .lst 144 entSh]) g1
  obtain ⟨x, c, rfl, ⟨on, rfl, ho⟩, g3⟩ := Sh.oks_cons g2
  obtain ⟨x, c, rfl, hx, g⟩ := Sh.oks_cons g3
  obtain rfl := Sh.oks_nil g
  obtain ⟨l, rfl, h1, _, h2⟩ := list_of (fun c hc => ent_sh hc) hx
  exact ⟨ds, q, on, l, rfl, ⟨hD, hq⟩, by omega, h2⟩
end Go.GB.C18

