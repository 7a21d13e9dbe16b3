/-
  YtilonlfmalfofaaP7: lemmas of this proof (part 7). No conditions.
-/
import Derived.Test.YtilonlfmalfofaaP6
import Derived.KernelRfl
import Derived.Test.YtilonlfmalfofaaP2
import Derived.Carry
import Derived.Handed
import Derived.ChangeSame
import Derived.ProofKit
import Derived.OpenShut

/-
  A40I: contracts of chapter 40's functions: within of the program.
-/
namespace Go.GB.C43
open Go.GB
set_option linter.unusedSimpArgs false
set_option linter.unusedVariables false
set_option maxRecDepth 100000
set_option maxHeartbeats 2000000
variable {P : Program}

/-- what the closure of within captures -/
def cloS (ds : List Def) (p : Pick) (n : Int) : List (Nat × AObj) :=
  [(0, .cells [.t (.lst (ds.map Def.enc))]), (1, .cells [.t (.str p.key), .t (.str p.on), .t (.str p.name), .t (.lst (p.args.map Arg.enc)), .t (.str p.ty.name), .t (.lst (p.ty.wraps.map nE)), .t (.str p.label), .t (.int .i64 p.initial), .t (.lst (p.picks.map Pick.enc))]), (2, .cells [.t (.int .i64 n)])]
def CloC (P : Program) (ds : List Def) (p : Pick) (n : Int) (g : Val → Bool) (x : Val) : Prop :=
  FnOk P 115 [x.v, .ptr 0 0, .ptr 1 0, .ptr 2 0] ⟨[(0, .cells [.t (.lst (ds.map Def.enc))]), (1, .cells [.t (.str p.key), .t (.str p.on), .t (.str p.name), .t (.lst (p.args.map Arg.enc)), .t (.str p.ty.name), .t (.lst (p.ty.wraps.map nE)), .t (.str p.label), .t (.int .i64 p.initial), .t (.lst (p.picks.map Pick.enc))]), (2, .cells [.t (.int .i64 n)])], 3⟩ { v := .t (.bool (!(g x))), rd := true }
theorem clo_ok (H : Pr40 P) (ds : List Def) (p : Pick) (n : Int) (hn : 0 < n ∧ n ≤ 140737488355328) (g : Val → Bool) (x : Val) (h : winC P 85 ds p (n - 1) x (g x)) : CloC P ds p n g x := by
  have e : IntKind.i64.wrap (n - 1) = n - 1 := wrap64 (by omega) (by omega)
  unfold winC at h
  unfold CloC
  refine FnOk.run H.i115 H.mixed rfl rfl ?_
  refine fR rfl ?_
  refine s64 rfl rfl rfl ?_
  refine fM rfl ?_
  refine Mid.call (h) rfl rfl rfl rfl ?_
  refine fM rfl ?_
  refine Run.fin rfl (EndOk.sameX rfl rfl rfl (by first | exact rfl | exact nSto_bd | exact tSto_bd) (.t (rfl)))
theorem indexFuncW_ok (H : Pr40 P) (ds : List Def) (p : Pick) (n : Int) (g : Val → Bool) (l : List Val) (hl : l.length ≤ 140737488355328) (hc : ∀ x, x ∈ l → CloC P ds p n g x) : FnOk P 118 [.t (.lst (l.map Val.enc)), .fn 115 [(0, 0), (1, 0), (2, 0)]] ⟨[(0, .cells [.t (.lst (ds.map Def.enc))]), (1, .cells [.t (.str p.key), .t (.str p.on), .t (.str p.name), .t (.lst (p.args.map Arg.enc)), .t (.str p.ty.name), .t (.lst (p.ty.wraps.map nE)), .t (.str p.label), .t (.int .i64 p.initial), .t (.lst (p.picks.map Pick.enc))]), (2, .cells [.t (.int .i64 n)])], 3⟩ { v := .t (.int .i64 (idxV (fun x => !(g x)) 0 l)), rd := true } := by
  refine FnOk.run H.i118 H.mixed rfl rfl ?_
  refine fR rfl ?_
  refine lM rfl rfl rfl ?_
  refine fM rfl ?_
  refine rList l (fun i (_ : Unit) => { env := [(0, .t (.lst (l.map Val.enc))), (1, .fn 115 [(0, 0), (1, 0), (2, 0)]), (7, .t (.int .i64 l.length)), (8, .t (.int .i64 i))], s := ⟨[(0, .cells [.t (.lst (ds.map Def.enc))]), (1, .cells [.t (.str p.key), .t (.str p.on), .t (.str p.name), .t (.lst (p.args.map Arg.enc)), .t (.str p.ty.name), .t (.lst (p.ty.wraps.map nE)), .t (.str p.label), .t (.int .i64 p.initial), .t (.lst (p.picks.map Pick.enc))]), (2, .cells [.t (.int .i64 n)])], 3⟩ }) (fun r i _ => idxV (fun x => !(g x)) 0 l = idxV (fun x => !(g x)) i r) 3 () rfl rfl rfl rfl rfl ?_ ?_
  · intro _ hinv
    refine fR rfl ?_
    refine Run.condF rfl rfl (by simp) ?_
    refine fR rfl ?_
    refine Run.fin rfl (EndOk.sameX rfl rfl rfl (by first | exact rfl | exact nSto_bd | exact tSto_bd) (.t ((by rw [hinv]; rfl))))
  · intro i x r _ h1 hi hd hinv ih
    have hx := hc x (List.mem_of_getElem? h1)
    unfold CloC at hx
    refine fR rfl ?_
    refine Run.condT rfl rfl (by simp; omega) ?_
    refine fR rfl ?_
    refine Mid.elemMapC (Val.enc_eq x) rfl rfl rfl h1 rfl rfl ?_
    refine fM rfl ?_
    refine Mid.callvS rfl (hx) rfl rfl rfl rfl ?_
    refine fM rfl ?_
    refine Run.cond rfl rfl (fun hcc => ?_) (fun hcc => ?_)
    · refine fR rfl ?_
      refine Run.fin rfl (EndOk.sameX rfl rfl rfl (by first | exact rfl | exact nSto_bd | exact tSto_bd) (.t ((by rw [hinv]; simp only [idxV]; rw [if_pos hcc]))))
    · refine fR rfl ?_
      refine aL rfl rfl rfl rfl rfl ?_
      refine fM rfl ?_
      have h' : ¬ (!(g x)) = true := by rw [hcc]; simp
      exact rWeak 3 rfl (ih () (by rw [hinv]; simp only [idxV]; rw [if_neg h']; rfl)) rfl rfl rfl
theorem containsFuncW_ok (H : Pr40 P) (ds : List Def) (p : Pick) (n : Int) (g : Val → Bool) (l : List Val) (hl : l.length ≤ 140737488355328) (hc : ∀ x, x ∈ l → CloC P ds p n g x) : FnOk P 92 [.t (.lst (l.map Val.enc)), .fn 115 [(0, 0), (1, 0), (2, 0)]] ⟨[(0, .cells [.t (.lst (ds.map Def.enc))]), (1, .cells [.t (.str p.key), .t (.str p.on), .t (.str p.name), .t (.lst (p.args.map Arg.enc)), .t (.str p.ty.name), .t (.lst (p.ty.wraps.map nE)), .t (.str p.label), .t (.int .i64 p.initial), .t (.lst (p.picks.map Pick.enc))]), (2, .cells [.t (.int .i64 n)])], 3⟩ { v := .t (.bool (l.any (fun x => !(g x)))), rd := true } := by
  refine FnOk.run H.i92 H.mixed rfl rfl ?_
  refine fR rfl ?_
  refine Mid.callS (indexFuncW_ok H ds p n g l hl hc) rfl rfl (by first | exact rfl | exact nSto_bd | exact tSto_bd) rfl ?_
  refine fM rfl ?_
  refine Run.fin rfl (EndOk.sameX rfl rfl rfl (by first | exact rfl | exact nSto_bd | exact tSto_bd) (.t ((by rw [← idxV_ge (fun x => !(g x)) l 0 (by omega)]))))

theorem any_not (g : Val → Bool) : ∀ l : List Val, (l.any fun x => !(g x)) = !(l.all fun x => g x)
  | [] => rfl
  | x :: r => by simp only [List.any_cons, List.all_cons, any_not g r, Bool.not_and]
theorem within_step (H : Pr40 P) (ds : List Def) (ho : DocOk ds) (k : Nat) (p : Pick) (hp : p.Ok) (hpl : p.picks.length * 160 ≤ 140737488355328) (n : Int) (hn : 0 ≤ n ∧ n ≤ 140737488355328) (v : Val) (hv : v.Ok)
    (hrec : ∀ x, x ∈ v.items → ∀ (q : Pick) (m : Int), q.Ok → q.picks.length * 160 ≤ 140737488355328 → 0 ≤ m ∧ m ≤ 140737488355328 → winC P 85 ds q m x (wiF ds k q m x)) : winC P 85 ds p n v (wiF ds (k + 1) p n v) := by
  have hil := hv.il
  have hW : WinC P 42 ds p.picks v (WiF (wiF ds k) p.picks v) := Win_step H ds ho (wiF ds k) p.picks hpl hp.p v hv fun q hq x hx => hrec x (getV_mem hx) q _ (hp.p q hq) (hp.p q hq).pl (by
    have h1 := levF_le q.ty.wraps
    have h2 := (hp.p q hq).t.l
    omega)
  unfold WinC at hW
  unfold winC
  refine FnOk.run H.i85 H.mixed rfl rfl ?_
  refine fR rfl ?_
  refine Run.cond rfl rfl (fun h5 => ?_) (fun h5 => ?_)
  · have e : wiF ds (k + 1) p n v = (decide (n > 0) && decide ((v.items.length : Int) ≤ lenF ds p) && v.items.all (fun x => wiF ds k p (n - 1) x)) := by simp only [wiF]; rw [if_pos h5]
    refine fR rfl ?_
    refine lMG rfl rfl rfl rfl ?_
    refine fM rfl ?_
    by_cases hn0 : n > 0
    · generalize hb : decide (n > 0) = b
      obtain rfl : b = true := by rw [← hb]; simpa using hn0
      skip
      refine Mid.ungd rfl rfl rfl ?_
      refine Mid.call (length_ok H ds ho p hp) rfl rfl rfl rfl ?_
      refine fM rfl ?_
      by_cases hlen : (v.items.length : Int) ≤ lenF ds p
      · generalize hb2 : decide ((v.items.length : Int) ≤ lenF ds p) = b2
        obtain rfl : b2 = true := by rw [← hb2]; simpa using hlen
        skip
        refine Mid.ungd rfl rfl rfl ?_
        refine Mid.callRd [0, 1, 2] (containsFuncW_ok H ds p n (fun x => wiF ds k p (n - 1) x) v.items (by omega) (fun x hx => clo_ok H ds p n (by omega) _ x (hrec x hx p (n - 1) hp hpl (by omega)))) rfl rfl rfl rfl (by simp [stoBd]; simp [AObj.bd, V.bds, V.bd]) (by repeat' (first | exact trivial | exact rfl | refine And.intro ?_ ?_ | exact (congrArg some (AObj.ren_mE _ _ _ _ _ _)).symm | exact (congrArg some (AObj.ren_cE _ _ _)).symm)) rfl ?_
        refine fM rfl ?_
        refine Run.fin rfl (EndOk.go ?_); exact .t (by rw [e]; simp [hn0, hlen]; exact any_not _ _)
      · generalize hb2 : decide ((v.items.length : Int) ≤ lenF ds p) = b2
        obtain rfl : b2 = false := by rw [← hb2]; simpa using hlen
        refine Mid.grdF rfl rfl rfl rfl rfl ?_
        refine Mid.grdF rfl rfl rfl rfl rfl ?_
        refine fM rfl ?_
        refine Run.fin rfl (EndOk.go ?_); exact .t (by rw [e]; simp [hlen])
    · generalize hb : decide (n > 0) = b
      obtain rfl : b = false := by rw [← hb]; simpa using hn0
      refine Mid.grdF rfl rfl rfl rfl rfl ?_
      refine Mid.grdF rfl rfl rfl rfl rfl ?_
      refine fM rfl ?_
      refine Mid.grdF rfl rfl rfl rfl rfl ?_
      refine Mid.grdF rfl rfl rfl rfl rfl ?_
      refine fM rfl ?_
      refine Run.fin rfl (EndOk.go ?_); exact .t (by rw [e]; simp [hn0])
  · have h5' : ¬ (v.kind == 5) = true := by rw [h5]; simp
    refine fR rfl ?_
    refine Run.cond rfl rfl (fun h6 => ?_) (fun h6 => ?_)
    · have e : wiF ds (k + 1) p n v = (n == 0 && WiF (wiF ds k) p.picks v) := by simp only [wiF]; rw [if_neg h5', if_pos h6]
      refine fR rfl ?_
      refine caG rfl rfl (fun hg => ⟨_, rfl, hW, rfl⟩) rfl rfl ?_
      refine fM rfl ?_
      refine Run.fin rfl (EndOk.go ?_); exact .t (by rw [e])
    · have h6' : ¬ (v.kind == 6) = true := by rw [h6]; simp
      have e : wiF ds (k + 1) p n v = true := by simp only [wiF]; rw [if_neg h5', if_neg h6']
      refine fR rfl ?_
      refine Run.fin rfl (EndOk.go ?_); exact .t (by rw [e])
theorem within_ok (H : Pr40 P) (ds : List Def) (ho : DocOk ds) : ∀ (k : Nat) (p : Pick) (n : Int) (v : Val), SizeOf.sizeOf v ≤ k → p.Ok → p.picks.length * 160 ≤ 140737488355328 → 0 ≤ n ∧ n ≤ 140737488355328 → v.Ok → winC P 85 ds p n v (wiF ds k p n v)
  | 0, p, n, v, h, _, _, _, _ => by cases v; simp at h
  | k + 1, p, n, v, h, hp, hpl, hn, hv => within_step H ds ho k p hp hpl n hn v hv fun x hx q m hq hql hm => within_ok H ds ho k q m x (by have := Val.size_items v hx; omega) hq hql hm (hv.it x hx)
theorem Within_ok (H : Pr40 P) (ds : List Def) (ho : DocOk ds) (l : List Pick) (hl : l.length * 160 ≤ 140737488355328) (hO : ∀ p, p ∈ l → p.Ok) (v : Val) (hv : v.Ok) (k : Nat) (hk : SizeOf.sizeOf v ≤ k) : WinC P 42 ds l v (WiF (wiF ds k) l v) :=
  Win_step H ds ho (wiF ds k) l hl hO v hv fun q hq x hx => within_ok H ds ho k q _ x (by have := Val.size_items v (getV_mem hx); omega) (hO q hq) (hO q hq).pl (by
    have h1 := levF_le q.ty.wraps
    have h2 := (hO q hq).t.l
    omega) (hv.it x (getV_mem hx))
end Go.GB.C43

/-
  A40J: contracts of chapter 40's functions: Within and within of the reference.
-/
namespace Go.GB.C43
open Go.GB
set_option linter.unusedSimpArgs false
set_option linter.unusedVariables false
set_option maxRecDepth 100000
set_option maxHeartbeats 2000000
variable {P : Program}

theorem rWin_step (H : Pr40 P) (ds : List Def) (ho : DocOk ds) (w : Pick → Int → Val → Bool) (l : List Pick) (hll : l.length * 160 ≤ 140737488355328) (hO : ∀ p, p ∈ l → p.Ok) (v : Val) (hv : v.Ok)
    (hrec : ∀ p, p ∈ l → ∀ x, getV v p.key = some x → winC P 87 ds p (levF p.ty.wraps) x (w p (levF p.ty.wraps) x)) : WinC P 43 ds l v (WiF w l v) := by
  unfold WinC
  refine FnOk.run H.i43 H.mixed rfl rfl ?_
  refine fR rfl ?_
  refine Run.cond rfl rfl (fun h5 => ?_) (fun h5 => ?_)
  · have h5' : v.kind = 5 := by simpa using h5
    refine fR rfl ?_
    refine Run.fin rfl (EndOk.go ?_); exact .t (by simp [WiF, h5'])
  · have h5' : (v.kind != 5) = true := by simpa using h5
    refine fR rfl ?_
    refine Mid.call (typed_ok H v hv) rfl rfl rfl rfl ?_
    refine fM rfl ?_
    refine rList l (fun i (_ : Unit) => { env := [(1, .t (.lst (l.map Pick.enc))), (3, .ptr 0 0), (5, .ptr 1 0), (7, .t (.str (tnF v))), (8, .t (.bool (tokF v))), (9, .t (.int .i64 i))], s := ⟨[(0, .cells [.t (.lst (ds.map Def.enc))]), (1, .cells [.t (.int .i64 v.kind), .t (.int .i64 v.int), .t (.str v.text), .t (.lst (v.items.map Val.enc)), .t (.lst (v.keys.map sE))])], 2⟩ }) (fun r i _ => WiF w l v = WiF w r v) 2 () rfl rfl rfl rfl rfl ?_ ?_
    · rintro _ hs
      refine fR rfl ?_
      refine lM rfl rfl rfl ?_
      refine fM rfl ?_
      refine Run.condF rfl rfl (by simp) ?_
      refine fR rfl ?_
      refine Run.fin rfl (EndOk.go ?_); exact .t (by rw [hs]; simp [WiF, h5'])
    · rintro i x r _ h1 hi hd hs ih
      have hxm := List.mem_of_getElem? h1
      have hs' : WiF w l v = (wiO w v x && WiF w r v) := by rw [hs]; simp [WiF, Bool.and_assoc]
      have hlw := (hO x hxm).t.l
      have hlv := levF_le x.ty.wraps
      by_cases ht : tokF v = true
      · refine fR rfl ?_
        refine lM rfl rfl rfl ?_
        refine fM rfl ?_
        refine Run.condT rfl rfl (by simp [ht]; omega) ?_
        refine fR rfl ?_
        refine Mid.elemMapC (Pick.enc_eq x) rfl rfl rfl h1 rfl rfl ?_
        refine fM rfl ?_
        refine Mid.call (rGet_ok H.toPr v hv x.key) rfl rfl rfl rfl ?_
        refine fM rfl ?_
        refine Mid.elemMapC (Pick.enc_eq x) rfl rfl rfl h1 rfl rfl ?_
        refine fM rfl ?_
        have e : wiO w v x = (!(x.on == tnF v) || !((getV v x.key).isSome) || w x (levF x.ty.wraps) ((getV v x.key).getD Val.zero)) := by simp only [wiO]; rw [ht]; rfl
        rw [e] at hs'
        by_cases hon : (x.on == tnF v) = true
        · rw [hon] at hs'
          rw [hon]
          cases hg : getV v x.key with
          | none =>
            rw [hg] at hs'
            skip
            refine Mid.elemMapCG (Pick.enc_eq x) rfl rfl rfl rfl h1 rfl (by (repeat' (first | exact trivial | exact Bool.not_or_self _ | exact grd1 _ | exact grd2 _ | exact grd3 _ _ | exact grd4 _ _ | refine And.intro ?_ ?_ | exact rfl | (simp; done) | (simp <;> omega))); done) (by (repeat' (first | exact trivial | exact Bool.not_or_self _ | exact grd1 _ | exact grd2 _ | exact grd3 _ _ | exact grd4 _ _ | refine And.intro ?_ ?_ | exact rfl | (simp; done) | (simp <;> omega))); done) rfl ?_
            refine fM rfl ?_
            skip
            refine Mid.elemMapCG (Pick.enc_eq x) rfl rfl rfl rfl h1 rfl (by (repeat' (first | exact trivial | exact Bool.not_or_self _ | exact grd1 _ | exact grd2 _ | exact grd3 _ _ | exact grd4 _ _ | refine And.intro ?_ ?_ | exact rfl | (simp; done) | (simp <;> omega))); done) (by (repeat' (first | exact trivial | exact Bool.not_or_self _ | exact grd1 _ | exact grd2 _ | exact grd3 _ _ | exact grd4 _ _ | refine And.intro ?_ ?_ | exact rfl | (simp; done) | (simp <;> omega))); done) rfl ?_
            refine fM rfl ?_
            refine Mid.grdF rfl rfl rfl rfl rfl ?_
            refine fM rfl ?_
            refine Mid.grdF rfl rfl rfl rfl rfl ?_
            refine Mid.grdF rfl rfl rfl rfl rfl ?_
            refine fM rfl ?_
            refine Run.condF rfl rfl rfl ?_
            refine fR rfl ?_
            refine aL rfl rfl rfl rfl rfl ?_
            refine fM rfl ?_
            exact rWeak 2 rfl (ih () (by rw [hs']; rfl)) rfl rfl rfl
          | some y =>
            have hy := hrec x hxm y hg
            unfold winC at hy
            rw [hg] at hs'
            skip
            refine Mid.elemMapCG (Pick.enc_eq x) rfl rfl rfl rfl h1 rfl (by (repeat' (first | exact trivial | exact Bool.not_or_self _ | exact grd1 _ | exact grd2 _ | exact grd3 _ _ | exact grd4 _ _ | refine And.intro ?_ ?_ | exact rfl | (simp; done) | (simp <;> omega))); done) (by (repeat' (first | exact trivial | exact Bool.not_or_self _ | exact grd1 _ | exact grd2 _ | exact grd3 _ _ | exact grd4 _ _ | refine And.intro ?_ ?_ | exact rfl | (simp; done) | (simp <;> omega))); done) rfl ?_
            refine fM rfl ?_
            refine Mid.elemMapCG (Pick.enc_eq x) rfl rfl rfl rfl h1 rfl (by (repeat' (first | exact trivial | exact Bool.not_or_self _ | exact grd1 _ | exact grd2 _ | exact grd3 _ _ | exact grd4 _ _ | refine And.intro ?_ ?_ | exact rfl | (simp; done) | (simp <;> omega))); done) (by (repeat' (first | exact trivial | exact Bool.not_or_self _ | exact grd1 _ | exact grd2 _ | exact grd3 _ _ | exact grd4 _ _ | refine And.intro ?_ ?_ | exact rfl | (simp; done) | (simp <;> omega))); done) rfl ?_
            refine fM rfl ?_
            refine Mid.ungd rfl rfl rfl ?_
            refine Mid.call (rLevels_ok H x.ty (hO x hxm).t) rfl rfl rfl rfl ?_
            refine fM rfl ?_
            refine Mid.ungd rfl rfl rfl ?_
            refine Mid.call (hy) rfl rfl rfl rfl ?_
            refine fM rfl ?_
            refine Run.cond rfl rfl (fun hw => ?_) (fun hw => ?_)
            · refine fR rfl ?_
              refine Run.fin rfl (EndOk.go ?_); exact .t (by rw [hs', show w x (levF x.ty.wraps) ((some y).getD Val.zero) = false from by simpa using hw]; rfl)
            · refine fR rfl ?_
              refine aL rfl rfl rfl rfl rfl ?_
              refine fM rfl ?_
              exact rWeak 2 rfl (ih () (by rw [hs', show w x (levF x.ty.wraps) ((some y).getD Val.zero) = true from by simpa using hw]; rfl)) rfl rfl rfl
        · have hon' : (x.on == tnF v) = false := by simpa using hon
          rw [hon'] at hs'
          rw [hon']
          skip
          refine Mid.elemMapCG (Pick.enc_eq x) rfl rfl rfl rfl h1 rfl (by (repeat' (first | exact trivial | exact Bool.not_or_self _ | exact grd1 _ | exact grd2 _ | exact grd3 _ _ | exact grd4 _ _ | refine And.intro ?_ ?_ | exact rfl | (simp; done) | (simp <;> omega))); done) (by (repeat' (first | exact trivial | exact Bool.not_or_self _ | exact grd1 _ | exact grd2 _ | exact grd3 _ _ | exact grd4 _ _ | refine And.intro ?_ ?_ | exact rfl | (simp; done) | (simp <;> omega))); done) rfl ?_
          refine fM rfl ?_
          skip
          refine Mid.elemMapCG (Pick.enc_eq x) rfl rfl rfl rfl h1 rfl (by (repeat' (first | exact trivial | exact Bool.not_or_self _ | exact grd1 _ | exact grd2 _ | exact grd3 _ _ | exact grd4 _ _ | refine And.intro ?_ ?_ | exact rfl | (simp; done) | (simp <;> omega))); done) (by (repeat' (first | exact trivial | exact Bool.not_or_self _ | exact grd1 _ | exact grd2 _ | exact grd3 _ _ | exact grd4 _ _ | refine And.intro ?_ ?_ | exact rfl | (simp; done) | (simp <;> omega))); done) rfl ?_
          refine fM rfl ?_
          refine Mid.grdF rfl rfl rfl rfl rfl ?_
          refine fM rfl ?_
          refine Mid.grdF rfl rfl rfl rfl rfl ?_
          refine Mid.grdF rfl rfl rfl rfl rfl ?_
          refine fM rfl ?_
          refine Run.condF rfl rfl rfl ?_
          refine fR rfl ?_
          refine aL rfl rfl rfl rfl rfl ?_
          refine fM rfl ?_
          exact rWeak 2 rfl (ih () (by rw [hs']; rfl)) rfl rfl rfl
      · have ht' : tokF v = false := by simpa using ht
        have e : WiF w l v = true := by
          simp only [WiF]; rw [h5', Bool.and_true]; exact List.all_eq_true.2 fun p _ => by simp only [wiO]; rw [ht']; rfl
        refine fR rfl ?_
        refine lM rfl rfl rfl ?_
        refine fM rfl ?_
        refine Run.condF rfl rfl (by simp [ht']) ?_
        refine fR rfl ?_
        refine Run.fin rfl (EndOk.go ?_); exact .t (by rw [e])

theorem rWithin_step (H : Pr40 P) (ds : List Def) (ho : DocOk ds) (k : Nat) (p : Pick) (hp : p.Ok) (hpl : p.picks.length * 160 ≤ 140737488355328) (n : Int) (hn : 0 ≤ n ∧ n ≤ 140737488355328) (v : Val) (hv : v.Ok)
    (hrec : ∀ x, x ∈ v.items → ∀ (q : Pick) (m : Int), q.Ok → q.picks.length * 160 ≤ 140737488355328 → 0 ≤ m ∧ m ≤ 140737488355328 → winC P 87 ds q m x (wiF ds k q m x)) : winC P 87 ds p n v (wiF ds (k + 1) p n v) := by
  have hil := hv.il
  have hlr := lenF_rng ds p
  have hW : WinC P 43 ds p.picks v (WiF (wiF ds k) p.picks v) := rWin_step H ds ho (wiF ds k) p.picks hpl hp.p v hv fun q hq x hx => hrec x (getV_mem hx) q _ (hp.p q hq) (hp.p q hq).pl (by
    have h1 := levF_le q.ty.wraps
    have h2 := (hp.p q hq).t.l
    omega)
  unfold WinC at hW
  unfold winC
  refine FnOk.run H.i87 H.mixed rfl rfl ?_
  refine fR rfl ?_
  refine Run.cond rfl rfl (fun h6 => ?_) (fun h6 => ?_)
  · have h6' : v.kind = 6 := by simpa using h6
    have e : wiF ds (k + 1) p n v = (n == 0 && WiF (wiF ds k) p.picks v) := by simp only [wiF]; rw [if_neg (by rw [h6']; decide), if_pos h6]
    refine fR rfl ?_
    refine caG rfl rfl (fun hg => ⟨_, rfl, hW, rfl⟩) rfl rfl ?_
    refine fM rfl ?_
    refine Run.fin rfl (EndOk.go ?_); exact .t (by rw [e])
  · have h6' : ¬ (v.kind == 6) = true := by rw [h6]; simp
    refine fR rfl ?_
    refine Run.cond rfl rfl (fun h5 => ?_) (fun h5 => ?_)
    · have h5' : ¬ (v.kind == 5) = true := by simpa using h5
      have e : wiF ds (k + 1) p n v = true := by simp only [wiF]; rw [if_neg h5', if_neg h6']
      refine fR rfl ?_
      refine Run.fin rfl (EndOk.go ?_); exact .t (by rw [e])
    · have h5' : (v.kind == 5) = true := by simpa using h5
      have e : wiF ds (k + 1) p n v = (decide (n > 0) && decide ((v.items.length : Int) ≤ lenF ds p) && v.items.all (fun x => wiF ds k p (n - 1) x)) := by simp only [wiF]; rw [if_pos h5']
      refine fR rfl ?_
      refine lMG rfl rfl rfl rfl ?_
      refine fM rfl ?_
      refine caG rfl rfl (fun hg => ⟨_, rfl, rLength_ok H ds ho p hp, rfl⟩) rfl rfl ?_
      refine fM rfl ?_
      refine Run.cond rfl rfl (fun hc => ?_) (fun hc => ?_)
      · refine fR rfl ?_
        refine Run.fin rfl (EndOk.go ?_); exact .t (by
          rw [e]
          rcases (show n = 0 ∨ lenF ds p < v.items.length by simpa using hc) with h | h
          · simp [h]
          · have : ¬ (v.items.length : Int) ≤ lenF ds p := by omega
            simp [this])
      · have hc' : ¬ n = 0 ∧ ¬ lenF ds p < v.items.length := by simpa using hc
        have hn0 : n > 0 := by omega
        have hle : (v.items.length : Int) ≤ lenF ds p := by omega
        have en : IntKind.i64.wrap (n - 1) = n - 1 := wrap64 (by omega) (by omega)
        have e2 : wiF ds (k + 1) p n v = v.items.all (fun x => wiF ds k p (n - 1) x) := by rw [e]; simp [hn0, hle]
        refine fR rfl ?_
        refine rList v.items (fun i (_ : Unit) => { env := [(2, .t (.int .i64 n)), (4, .ptr 0 0), (5, .ptr 1 0), (7, .ptr 2 0), (9, .t (.int .i64 i))], s := ⟨[(0, .cells [.t (.lst (ds.map Def.enc))]), (1, .cells [.t (.str p.key), .t (.str p.on), .t (.str p.name), .t (.lst (p.args.map Arg.enc)), .t (.str p.ty.name), .t (.lst (p.ty.wraps.map nE)), .t (.str p.label), .t (.int .i64 p.initial), .t (.lst (p.picks.map Pick.enc))]), (2, .cells [.t (.int .i64 v.kind), .t (.int .i64 v.int), .t (.str v.text), .t (.lst (v.items.map Val.enc)), .t (.lst (v.keys.map sE))])], 3⟩ }) (fun r i _ => wiF ds (k + 1) p n v = r.all (fun x => wiF ds k p (n - 1) x)) 3 () rfl e2 rfl rfl rfl ?_ ?_
        · rintro _ hs
          refine fR rfl ?_
          refine lM rfl rfl rfl ?_
          refine fM rfl ?_
          refine Run.condF rfl rfl (by simp) ?_
          refine fR rfl ?_
          refine Run.fin rfl (EndOk.go ?_); exact .t (by rw [hs]; rfl)
        · rintro i x r _ h1 hi hd hs ih
          have hx := hrec x (List.mem_of_getElem? h1) p (n - 1) hp hpl (by omega)
          unfold winC at hx
          refine fR rfl ?_
          refine lM rfl rfl rfl ?_
          refine fM rfl ?_
          refine Run.condT rfl rfl (by simp; omega) ?_
          refine fR rfl ?_
          refine s64 rfl rfl rfl ?_
          refine fM rfl ?_
          refine Mid.elemMapC (Val.enc_eq x) rfl rfl rfl h1 rfl rfl ?_
          refine fM rfl ?_
          refine Mid.call (hx) rfl rfl rfl rfl ?_
          refine fM rfl ?_
          refine Run.cond rfl rfl (fun hw => ?_) (fun hw => ?_)
          · have hw' : wiF ds k p (n - 1) x = false := by simpa using hw
            refine fR rfl ?_
            refine Run.fin rfl (EndOk.go ?_); exact .t (by rw [hs, List.all_cons, hw']; rfl)
          · have hw' : wiF ds k p (n - 1) x = true := by simpa using hw
            refine fR rfl ?_
            refine aL rfl rfl rfl rfl rfl ?_
            refine fM rfl ?_
            exact rWeak 3 rfl (ih () (by rw [hs, List.all_cons, hw']; rfl)) rfl rfl rfl
theorem rWithin_ok (H : Pr40 P) (ds : List Def) (ho : DocOk ds) : ∀ (k : Nat) (p : Pick) (n : Int) (v : Val), SizeOf.sizeOf v ≤ k → p.Ok → p.picks.length * 160 ≤ 140737488355328 → 0 ≤ n ∧ n ≤ 140737488355328 → v.Ok → winC P 87 ds p n v (wiF ds k p n v)
  | 0, p, n, v, h, _, _, _, _ => by cases v; simp at h
  | k + 1, p, n, v, h, hp, hpl, hn, hv => rWithin_step H ds ho k p hp hpl n hn v hv fun x hx q m hq hql hm => rWithin_ok H ds ho k q m x (by have := Val.size_items v hx; omega) hq hql hm (hv.it x hx)
theorem rWithinL_ok (H : Pr40 P) (ds : List Def) (ho : DocOk ds) (l : List Pick) (hl : l.length * 160 ≤ 140737488355328) (hO : ∀ p, p ∈ l → p.Ok) (v : Val) (hv : v.Ok) (k : Nat) (hk : SizeOf.sizeOf v ≤ k) : WinC P 43 ds l v (WiF (wiF ds k) l v) :=
  rWin_step H ds ho (wiF ds k) l hl hO v hv fun q hq x hx => rWithin_ok H ds ho k q _ x (by have := Val.size_items v (getV_mem hx); omega) (hO q hq) (hO q hq).pl (by
    have h1 := levF_le q.ty.wraps
    have h2 := (hO q hq).t.l
    omega) (hv.it x (getV_mem hx))
end Go.GB.C43

/-
  A43K: contracts of chapter 43's functions: a thing is the same as itself.
-/
namespace Go.GB.C43
open Go.GB
set_option linter.unusedSimpArgs false
set_option linter.unusedVariables false
set_option maxRecDepth 100000
set_option maxHeartbeats 2000000
variable {P : Program}

theorem less_irrefl : ∀ s : List UInt8, Op.bytesLess s s = false
  | [] => rfl
  | a :: r => by simp [Op.bytesLess, less_irrefl r]
theorem strings_refl (H : Pr P) (s : Str) : FnOk P 124 [.t (.str s), .t (.str s)] ⟨[], 0⟩ { v := .t (.int .i64 0) } := by
  refine FnOk.run H.i124 H.mixed rfl rfl ?_
  refine fR rfl ?_
  refine Run.condF rfl rfl (by simp [less_irrefl]) ?_
  refine fR rfl ?_
  refine Run.condF rfl rfl (by simp [less_irrefl]) ?_
  refine fR rfl ?_
  refine Run.fin rfl (EndOk.go ?_); exact .t rfl

def keyAt (v : Val) (i : Nat) : Str := (v.keys[i]?).getD []
theorem key_ok (H : Pr P) (v : Val) (hv : v.Ok) (i : Nat) (hi : i ≤ 140737488355328) : FnOk P 125 [v.v, .t (.int .i64 i)] ⟨[], 0⟩ { v := .t (.str (keyAt v i)) } := by
  have hkl := hv.kl
  refine FnOk.run H.i125 H.mixed rfl rfl ?_
  refine fR rfl ?_
  refine lM rfl rfl rfl ?_
  refine fM rfl ?_
  refine Run.cond rfl rfl (fun h => ?_) (fun h => ?_)
  · have h' : i < v.keys.length := by simpa using h
    have h1 : v.keys[i]? = some (v.keys[i]'h') := by simp
    have hk : keyAt v i = v.keys[i]'h' := by simp [keyAt, h1]
    generalize v.keys[i]'h' = x at h1 hk
    refine fR rfl ?_
    refine Mid.elemMap rfl rfl rfl h1 rfl rfl ?_
    refine fM rfl ?_
    refine Run.fin rfl (EndOk.go ?_); exact .t (by simp [hk])
  · have h' : ¬ i < v.keys.length := by simpa using h
    have hk : keyAt v i = [] := by simp [keyAt, List.getElem?_eq_none (Nat.le_of_not_lt h')]
    refine fR rfl ?_
    refine Run.fin rfl (EndOk.go ?_); exact .t (by simp [hk])

def CmpC (P : Program) (a : Val) : Prop := FnOk P 103 [a.v, a.v] ⟨[], 0⟩ { v := .t (.int .i64 0) }
theorem cmp_step (H : Pr P) (a : Val) (ha : a.Ok) (hrec : ∀ x, x ∈ a.items → CmpC P x) : CmpC P a := by
  have hil := ha.il
  have hkl := ha.kl
  unfold CmpC
  refine FnOk.run H.i103 H.mixed rfl rfl ?_
  refine fR rfl ?_
  refine Mid.call (ints_refl H a.kind) rfl rfl rfl rfl ?_
  refine fM rfl ?_
  refine Run.condT rfl rfl (by simp [less_irrefl]) ?_
  refine fR rfl ?_
  refine Mid.call (ints_refl H a.int) rfl rfl rfl rfl ?_
  refine fM rfl ?_
  refine Run.condT rfl rfl (by simp) ?_
  refine fR rfl ?_
  refine Mid.call (strings_refl H a.text) rfl rfl rfl rfl ?_
  refine fM rfl ?_
  refine rList a.items (fun i (_ : Unit) => { env := [(2, .ptr 0 0), (3, .ptr 1 0), (5, .t (.int .i64 0)), (6, .t (.int .i64 i))], s := ⟨[(0, .cells [.t (.int .i64 a.kind), .t (.int .i64 a.int), .t (.str a.text), .t (.lst (a.items.map Val.enc)), .t (.lst (a.keys.map sE))]), (1, .cells [.t (.int .i64 a.kind), .t (.int .i64 a.int), .t (.str a.text), .t (.lst (a.items.map Val.enc)), .t (.lst (a.keys.map sE))])], 2⟩ }) (fun r i _ => True) 2 () rfl trivial rfl rfl rfl ?_ ?_
  · intro _ _
    refine fR rfl ?_
    refine Run.condT rfl rfl (by simp) ?_
    refine fR rfl ?_
    refine lM rfl rfl rfl ?_
    refine fM rfl ?_
    refine lMG rfl rfl rfl rfl ?_
    refine fM rfl ?_
    refine Run.condT rfl rfl (by simp) ?_
    refine fR rfl ?_
    refine lM rfl rfl rfl ?_
    refine fM rfl ?_
    refine lM rfl rfl rfl ?_
    refine Mid.call (ints_refl H (a.items.length : Nat)) rfl rfl rfl rfl ?_
    refine fM rfl ?_
    refine Run.fin rfl (EndOk.go ?_); exact .t rfl
  · intro i x r _ h1 hi hd _ ih
    have hc := hrec x (List.mem_of_getElem? h1)
    unfold CmpC at hc
    refine fR rfl ?_
    refine Run.condT rfl rfl (by simp) ?_
    refine fR rfl ?_
    refine lM rfl rfl rfl ?_
    refine fM rfl ?_
    refine lMG rfl rfl rfl rfl ?_
    refine fM rfl ?_
    refine Run.condF rfl rfl (by simp; omega) ?_
    refine fR rfl ?_
    refine Mid.call (key_ok H a ha i (by omega)) rfl rfl rfl rfl ?_
    refine fM rfl ?_
    refine Mid.call (key_ok H a ha i (by omega)) rfl rfl rfl rfl ?_
    skip
    refine Mid.call (strings_refl H (keyAt a i)) rfl rfl rfl rfl ?_
    refine fM rfl ?_
    refine Run.condT rfl rfl (by simp) ?_
    refine fR rfl ?_
    refine Mid.elemMapC (Val.enc_eq x) rfl rfl rfl h1 rfl rfl ?_
    refine fM rfl ?_
    refine Mid.elemMapC (Val.enc_eq x) rfl rfl rfl h1 rfl rfl ?_
    refine fM rfl ?_
    refine Mid.call (hc) rfl rfl rfl rfl ?_
    refine fM rfl ?_
    refine aL rfl rfl rfl rfl rfl ?_
    refine fM rfl ?_
    exact rWeak 2 rfl (ih () trivial) rfl rfl rfl
theorem cmp_refl' (H : Pr P) : ∀ (k : Nat) (a : Val), SizeOf.sizeOf a ≤ k → a.Ok → CmpC P a
  | 0, a, h, _ => by cases a; simp at h
  | k + 1, a, h, ha => cmp_step H a ha fun x hx => cmp_refl' H k x (by have := Val.size_items a hx; omega) (ha.it x hx)
theorem cmp_refl (H : Pr P) (a : Val) (ha : a.Ok) : FnOk P 103 [a.v, a.v] ⟨[], 0⟩ { v := .t (.int .i64 0) } := cmp_refl' H _ a (Nat.le_refl _) ha
theorem sameV_refl (H : Pr P) (a : Val) (ha : a.Ok) : FnOk P 58 [a.v, a.v] ⟨[], 0⟩ { v := .t (.bool true) } := by
  refine FnOk.run H.i58 H.mixed rfl rfl ?_
  refine fR rfl ?_
  refine Mid.call (cmp_refl H a ha) rfl rfl rfl rfl ?_
  refine fM rfl ?_
  refine Run.fin rfl (EndOk.go ?_); exact .t (by simp)
end Go.GB.C43

/-
  A43L: contracts of chapter 43's functions: weights. Every loop of these stops as soon as the sum is over the limit.
-/
namespace Go.GB.C43
open Go.GB
set_option linter.unusedSimpArgs false
set_option linter.unusedVariables false
set_option maxRecDepth 100000
set_option maxHeartbeats 2000000
variable {P : Program}

/- a loop that stops when the sum passes n: the elements it sees, and the sum it ends with -/
def pre {α} (n : Int) (f : Int → α → Int) : Int → List α → List α
  | _, [] => []
  | t, x :: r => if t ≤ n then x :: pre n f (f t x) r else []
def tot {α} (n : Int) (f : Int → α → Int) : Int → List α → Int
  | t, [] => t
  | t, x :: r => if t ≤ n then tot n f (f t x) r else t
structure PreInv {α} (n : Int) (f : Int → α → Int) (l : List α) (T : Int) (r : List α) (i : Nat) (t : Int) : Prop where
  a : r = pre n f t (l.drop i)
  b : tot n f t (l.drop i) = T
theorem pre_init {α} (n : Int) (f : Int → α → Int) (l : List α) (t : Int) : PreInv n f l (tot n f t l) (pre n f t l) 0 t := ⟨by simp, by simp⟩
theorem pre_nil {α} {n : Int} {f : Int → α → Int} {l : List α} {T : Int} {i : Nat} {t : Int} (h : PreInv n f l T [] i t) : (¬ (i < l.length ∧ t ≤ n)) ∧ t = T := by
  obtain ⟨a, b⟩ := h
  by_cases hi : i < l.length
  · rw [List.drop_eq_getElem_cons hi] at a b
    by_cases ht : t ≤ n
    · simp [pre, ht] at a
    · simp [tot, ht] at b; exact ⟨by simp [ht], b⟩
  · rw [List.drop_eq_nil_of_le (by omega)] at b
    exact ⟨by simp [hi], by simpa [tot] using b⟩
theorem pre_cons {α} {n : Int} {f : Int → α → Int} {l : List α} {T : Int} {x : α} {r : List α} {i : Nat} {t : Int} (h : PreInv n f l T (x :: r) i t) :
    l[i]? = some x ∧ i < l.length ∧ t ≤ n ∧ PreInv n f l T r (i + 1) (f t x) := by
  obtain ⟨a, b⟩ := h
  by_cases hi : i < l.length
  · rw [List.drop_eq_getElem_cons hi] at a b
    by_cases ht : t ≤ n
    · simp [pre, ht] at a
      obtain ⟨a1, a2⟩ := a
      subst a1
      refine ⟨by simp, hi, ht, a2, ?_⟩
      simpa [tot, ht] using b
    · simp [pre, ht] at a
  · rw [List.drop_eq_nil_of_le (by omega)] at a
    simp [pre] at a

def fKey (t : Int) (k : Str) : Int := IntKind.i64.wrap (IntKind.i64.wrap (t + 1) + (k.length : Nat))
mutual
def wVal (n : Int) : Val → Int
  | .mk _ _ t its ks => wVals n (tot n fKey (IntKind.i64.wrap (1 + (t.length : Nat))) ks) its
def wVals (n : Int) : Int → List Val → Int
  | t, [] => t
  | t, v :: r => if t ≤ n then wVals n (IntKind.i64.wrap (t + wVal n v)) r else t
end
def fVal (n t : Int) (v : Val) : Int := IntKind.i64.wrap (t + wVal n v)
theorem wVals_tot (n : Int) : ∀ (l : List Val) (t : Int), wVals n t l = tot n (fVal n) t l
  | [], t => by simp [wVals, tot]
  | v :: r, t => by simp [wVals, tot, fVal, wVals_tot n r]
theorem wVal_eq (n : Int) : ∀ v : Val, wVal n v = tot n (fVal n) (tot n fKey (IntKind.i64.wrap (1 + (v.text.length : Nat))) v.keys) v.items
  | .mk _ _ t its ks => by simp [wVal, wVals_tot, Val.text, Val.keys, Val.items]

def WgtC (P : Program) (n : Int) (a : Val) : Prop := FnOk P 23 [a.v, .t (.int .i64 n)] ⟨[], 0⟩ { v := .t (.int .i64 (wVal n a)) }
theorem wVal_step (H : Pr P) (n : Int) (a : Val) (ha : a.Ok) (hrec : ∀ x, x ∈ a.items → WgtC P n x) : WgtC P n a := by
  have hil := ha.il
  have hkl := ha.kl
  have htl := ha.tl
  have hkt := ha.kt
  have hw := wVal_eq n a
  unfold WgtC
  refine FnOk.run H.i23 H.mixed rfl rfl ?_
  refine fR rfl ?_
  refine p0 rfl ?_
  refine fM rfl ?_
  refine rList (pre n fKey (IntKind.i64.wrap (1 + (a.text.length : Nat))) a.keys) (fun i (t : Int) => { env := [(1, .t (.int .i64 n)), (2, .ptr 0 0), (5, .t (.int .i64 t)), (6, .t (.int .i64 i))], s := ⟨[(0, .cells [.t (.int .i64 a.kind), .t (.int .i64 a.int), .t (.str a.text), .t (.lst (a.items.map Val.enc)), .t (.lst (a.keys.map sE))])], 1⟩ }) (fun r i t => PreInv n fKey a.keys (tot n fKey (IntKind.i64.wrap (1 + (a.text.length : Nat))) a.keys) r i t) 1 (IntKind.i64.wrap (1 + (a.text.length : Nat))) rfl (pre_init ..) rfl rfl rfl ?_ ?_
  · intro t ht
    obtain ⟨h1, h2⟩ := pre_nil ht
    rw [← h2] at hw
    refine fR rfl ?_
    refine lM rfl rfl rfl ?_
    refine fM rfl ?_
    refine Run.condF rfl rfl (by simp at h1 ⊢; omega) ?_
    refine fR rfl ?_
    refine rList (pre n (fVal n) t a.items) (fun i (t : Int) => { env := [(1, .t (.int .i64 n)), (2, .ptr 0 0), (5, .t (.int .i64 t)), (7, .t (.int .i64 i))], s := ⟨[(0, .cells [.t (.int .i64 a.kind), .t (.int .i64 a.int), .t (.str a.text), .t (.lst (a.items.map Val.enc)), .t (.lst (a.keys.map sE))])], 1⟩ }) (fun r i t' => PreInv n (fVal n) a.items (tot n (fVal n) t a.items) r i t') 1 t rfl (pre_init ..) rfl rfl rfl ?_ ?_
    · intro t ht
      obtain ⟨h1, h2⟩ := pre_nil ht
      refine fR rfl ?_
      refine lM rfl rfl rfl ?_
      refine fM rfl ?_
      refine Run.condF rfl rfl (by simp at h1 ⊢; omega) ?_
      refine fR rfl ?_
      refine Run.fin rfl (EndOk.go ?_); exact .t (by rw [hw, h2])
    · intro i x r t _ hi hd hinv ih
      obtain ⟨h1, hi', hle, hnx⟩ := pre_cons hinv
      have hc := hrec x (List.mem_of_getElem? h1)
      unfold WgtC at hc
      refine fR rfl ?_
      refine lM rfl rfl rfl ?_
      refine fM rfl ?_
      refine Run.condT rfl rfl (by simp; omega) ?_
      refine fR rfl ?_
      refine Mid.elemMapC (Val.enc_eq x) rfl rfl rfl h1 rfl rfl ?_
      refine fM rfl ?_
      refine Mid.call (hc) rfl rfl rfl rfl ?_
      refine p0 rfl ?_
      refine fM rfl ?_
      refine aL rfl rfl rfl rfl rfl ?_
      refine fM rfl ?_
      exact rWeak 1 rfl (ih (fVal n t x) hnx) rfl rfl rfl
  · intro i x r t _ hi hd hinv ih
    obtain ⟨h1, hi', hle, hnx⟩ := pre_cons hinv
    have hxl := hkt x (List.mem_of_getElem? h1)
    refine fR rfl ?_
    refine lM rfl rfl rfl ?_
    refine fM rfl ?_
    refine Run.condT rfl rfl (by simp; omega) ?_
    refine fR rfl ?_
    refine p0 rfl ?_
    refine fM rfl ?_
    refine Mid.elemMap rfl rfl rfl h1 rfl rfl ?_
    refine fM rfl ?_
    refine p0 rfl ?_
    refine fM rfl ?_
    refine aL rfl rfl rfl rfl rfl ?_
    refine fM rfl ?_
    exact rWeak 1 rfl (ih (fKey t x) hnx) rfl rfl rfl
theorem wVal_ok' (H : Pr P) (n : Int) : ∀ (k : Nat) (a : Val), SizeOf.sizeOf a ≤ k → a.Ok → WgtC P n a
  | 0, a, h, _ => by cases a; simp at h
  | k + 1, a, h, ha => wVal_step H n a ha fun x hx => wVal_ok' H n k x (by have := Val.size_items a hx; omega) (ha.it x hx)
theorem wVal_ok (H : Pr P) (n : Int) (a : Val) (ha : a.Ok) : FnOk P 23 [a.v, .t (.int .i64 n)] ⟨[], 0⟩ { v := .t (.int .i64 (wVal n a)) } := wVal_ok' H n _ a (Nat.le_refl _) ha
end Go.GB.C43

/-
  A43M: contracts of chapter 43's functions: weights of directives, inputs and schemas.
-/
namespace Go.GB.C43
open Go.GB
set_option linter.unusedSimpArgs false
set_option linter.unusedVariables false
set_option maxRecDepth 100000
set_option maxHeartbeats 2000000
variable {P : Program}

def wr (x : Int) : Int := IntKind.i64.wrap x
def fArg (n t : Int) (a : Arg) : Int := IntKind.i64.wrap (IntKind.i64.wrap (t + 1) + wVal n a.val)
def fDir (n t : Int) (d : Dir) : Int := tot n (fArg n) (IntKind.i64.wrap (t + 1)) d.args
def wDirs (n : Int) (l : List Dir) : Int := tot n (fDir n) 0 l
theorem weightDirs_ok (H : Pr P) (n : Int) (l : List Dir) (hl : l.length ≤ 140737488355328) (hd : ∀ d, d ∈ l → d.Ok) :
    FnOk P 88 [.t (.lst (l.map Dir.enc)), .t (.int .i64 n)] ⟨[], 0⟩ { v := .t (.int .i64 (wDirs n l)) } := by
  have hw : wDirs n l = tot n (fDir n) 0 l := rfl
  refine FnOk.run H.i88 H.mixed rfl rfl ?_
  refine fR rfl ?_
  refine rList (pre n (fDir n) 0 l) (fun i (t : Int) => { env := [(0, .t (.lst (l.map Dir.enc))), (1, .t (.int .i64 n)), (5, .t (.int .i64 t)), (6, .t (.int .i64 i))], s := ⟨[], 0⟩ }) (fun r i t => PreInv n (fDir n) l (tot n (fDir n) 0 l) r i t) 0 0 rfl (pre_init ..) rfl rfl rfl ?_ ?_
  · intro t ht
    obtain ⟨h1, h2⟩ := pre_nil ht
    refine fR rfl ?_
    refine lM rfl rfl rfl ?_
    refine fM rfl ?_
    refine Run.condF rfl rfl (by simp at h1 ⊢; omega) ?_
    refine fR rfl ?_
    refine Run.fin rfl (EndOk.go ?_); exact .t (by rw [hw, h2])
  · intro i d r t _ hi hdd hinv ih
    obtain ⟨h1, hi', hle, hnx⟩ := pre_cons hinv
    have hdo := hd d (List.mem_of_getElem? h1)
    have hal := hdo.l
    refine fR rfl ?_
    refine lM rfl rfl rfl ?_
    refine fM rfl ?_
    refine Run.condT rfl rfl (by simp; omega) ?_
    refine fR rfl ?_
    refine p0 rfl ?_
    refine fM rfl ?_
    refine rList (pre n (fArg n) (IntKind.i64.wrap (t + 1)) d.args) (fun j (t : Int) => { env := [(0, .t (.lst (l.map Dir.enc))), (1, .t (.int .i64 n)), (5, .t (.int .i64 t)), (6, .t (.int .i64 i)), (7, .t (.int .i64 j))], s := ⟨[], 0⟩ }) (fun r j t' => PreInv n (fArg n) d.args (fDir n t d) r j t') 0 (IntKind.i64.wrap (t + 1)) rfl (pre_init ..) rfl rfl rfl ?_ ?_
    · intro t' ht'
      obtain ⟨h1', h2'⟩ := pre_nil ht'
      refine fR rfl ?_
      refine Mid.elemMap rfl rfl rfl h1 rfl rfl ?_
      refine fM rfl ?_
      refine lM rfl rfl rfl ?_
      refine fM rfl ?_
      refine Run.condF rfl rfl (by simp at h1' ⊢; omega) ?_
      refine fR rfl ?_
      refine aL rfl rfl rfl rfl rfl ?_
      refine fM rfl ?_
      exact rWeak 0 rfl (ih t' (by rw [h2']; exact hnx)) rfl rfl rfl
    · intro j a r' t' _ hj hdd' hinv' ih'
      obtain ⟨k1, kj, kle, knx⟩ := pre_cons hinv'
      have hao : a.val.Ok := hdo.a a (List.mem_of_getElem? k1)
      refine fR rfl ?_
      refine Mid.elemMap rfl rfl rfl h1 rfl rfl ?_
      refine fM rfl ?_
      refine lM rfl rfl rfl ?_
      refine fM rfl ?_
      refine Run.condT rfl rfl (by simp; omega) ?_
      refine fR rfl ?_
      refine p0 rfl ?_
      refine fM rfl ?_
      refine Mid.elemMap rfl rfl rfl h1 rfl rfl ?_
      refine fM rfl ?_
      refine Mid.elemMap rfl rfl rfl k1 rfl rfl ?_
      refine fM rfl ?_
      refine Mid.call (wVal_ok H n a.val hao) rfl rfl rfl rfl ?_
      refine p0 rfl ?_
      refine fM rfl ?_
      refine aL rfl rfl rfl rfl rfl ?_
      refine fM rfl ?_
      exact rWeak 0 rfl (ih' (fArg n t' a) knx) rfl rfl rfl

def fInp (n t : Int) (x : Input) : Int := IntKind.i64.wrap (IntKind.i64.wrap (IntKind.i64.wrap (IntKind.i64.wrap (t + 1) + (x.ty.wraps.length : Nat)) + wVal n x.dflt) + wDirs n x.dirs)
def wInps (n : Int) (l : List Input) : Int := tot n (fInp n) 0 l
theorem weightInputs_ok (H : Pr P) (n : Int) (l : List Input) (hl : l.length ≤ 140737488355328) (hd : ∀ d, d ∈ l → d.Ok) :
    FnOk P 89 [.t (.lst (l.map Input.enc)), .t (.int .i64 n)] ⟨[], 0⟩ { v := .t (.int .i64 (wInps n l)) } := by
  have hw : wInps n l = tot n (fInp n) 0 l := rfl
  refine FnOk.run H.i89 H.mixed rfl rfl ?_
  refine fR rfl ?_
  refine rList (pre n (fInp n) 0 l) (fun i (t : Int) => { env := [(0, .t (.lst (l.map Input.enc))), (1, .t (.int .i64 n)), (5, .t (.int .i64 t)), (6, .t (.int .i64 i))], s := ⟨[], 0⟩ }) (fun r i t => PreInv n (fInp n) l (tot n (fInp n) 0 l) r i t) 0 0 rfl (pre_init ..) rfl rfl rfl ?_ ?_
  · intro t ht
    obtain ⟨h1, h2⟩ := pre_nil ht
    refine fR rfl ?_
    refine lM rfl rfl rfl ?_
    refine fM rfl ?_
    refine Run.condF rfl rfl (by simp at h1 ⊢; omega) ?_
    refine fR rfl ?_
    refine Run.fin rfl (EndOk.go ?_); exact .t (by rw [hw, h2])
  · intro i x r t _ hi hdd hinv ih
    obtain ⟨h1, hi', hle, hnx⟩ := pre_cons hinv
    have hxo := hd x (List.mem_of_getElem? h1)
    have hwl := hxo.t.l
    have hdl := hxo.l
    refine fR rfl ?_
    refine lM rfl rfl rfl ?_
    refine fM rfl ?_
    refine Run.condT rfl rfl (by simp; omega) ?_
    refine fR rfl ?_
    refine p0 rfl ?_
    refine fM rfl ?_
    refine Mid.elemMap rfl rfl rfl h1 rfl rfl ?_
    refine fM rfl ?_
    refine lM rfl rfl rfl ?_
    refine p0 rfl ?_
    refine fM rfl ?_
    refine Mid.elemMap rfl rfl rfl h1 rfl rfl ?_
    refine fM rfl ?_
    refine Mid.call (wVal_ok H n x.dflt hxo.v) rfl rfl rfl rfl ?_
    refine p0 rfl ?_
    refine fM rfl ?_
    refine Mid.elemMap rfl rfl rfl h1 rfl rfl ?_
    refine fM rfl ?_
    refine Mid.call (weightDirs_ok H n x.dirs hdl hxo.d) rfl rfl rfl rfl ?_
    refine p0 rfl ?_
    refine fM rfl ?_
    refine aL rfl rfl rfl rfl rfl ?_
    refine fM rfl ?_
    exact rWeak 0 rfl (ih (fInp n t x) hnx) rfl rfl rfl
end Go.GB.C43

/-
  A43N: contract of chapter 43's function 46: the weight of a schema.
-/
namespace Go.GB.C43
open Go.GB
set_option linter.unusedSimpArgs false
set_option linter.unusedVariables false
set_option maxRecDepth 100000
set_option maxHeartbeats 2000000
variable {P : Program}

def fFld (n t : Int) (x : Field) : Int := IntKind.i64.wrap (IntKind.i64.wrap (IntKind.i64.wrap (IntKind.i64.wrap (t + 1) + (x.ty.wraps.length : Nat)) + wInps n x.args) + wDirs n x.dirs)
def fMem (n t : Int) (x : Member) : Int := IntKind.i64.wrap (IntKind.i64.wrap (t + 1) + wDirs n x.dirs)
def defT (n t : Int) (d : Def) : Int := IntKind.i64.wrap (IntKind.i64.wrap (IntKind.i64.wrap (t + (d.implements.length : Nat)) + wDirs n d.dirs) + wInps n d.inputs)
def fDef (n t : Int) (d : Def) : Int := tot n (fMem n) (tot n (fFld n) (defT n t d) d.fields) d.members
def wDoc (n : Int) (ds : List Def) : Int := tot n (fDef n) (ds.length : Nat) ds
theorem weightDoc_ok (H : Pr P) (n : Int) (ds : List Def) (hD : DocOk ds) : FnOk P 46 [docV ds, .t (.int .i64 n)] ⟨[], 0⟩ { v := .t (.int .i64 (wDoc n ds)) } := by
  have hl := hD.l
  have hw : wDoc n ds = tot n (fDef n) (ds.length : Nat) ds := rfl
  refine FnOk.run H.i46 H.mixed rfl rfl ?_
  refine fR rfl ?_
  refine lM rfl rfl rfl ?_
  refine fM rfl ?_
  refine rList (pre n (fDef n) (ds.length : Nat) ds) (fun i (t : Int) => { env := [(1, .t (.int .i64 n)), (2, .ptr 0 0), (5, .t (.int .i64 t)), (6, .t (.int .i64 i))], s := ⟨[(0, .cells [.t (.lst (ds.map Def.enc))])], 1⟩ }) (fun r i t => PreInv n (fDef n) ds (tot n (fDef n) (ds.length : Nat) ds) r i t) 1 (ds.length : Nat) rfl (pre_init ..) rfl rfl rfl ?_ ?_
  · intro t ht
    obtain ⟨h1, h2⟩ := pre_nil ht
    refine fR rfl ?_
    refine lM rfl rfl rfl ?_
    refine fM rfl ?_
    refine Run.condF rfl rfl (by simp at h1 ⊢; omega) ?_
    refine fR rfl ?_
    refine Run.fin rfl (EndOk.go ?_); exact .t (by rw [hw, h2])
  · intro i d r t _ hi hdd hinv ih
    obtain ⟨h1, hi', hle, hnx⟩ := pre_cons hinv
    have hdo := hD.d d (List.mem_of_getElem? h1)
    have q1 := hdo.il
    have q2 := hdo.dl
    have q3 := hdo.fl
    have q4 := hdo.ml
    have q5 := hdo.nl
    refine fR rfl ?_
    refine lM rfl rfl rfl ?_
    refine fM rfl ?_
    refine Run.condT rfl rfl (by simp; omega) ?_
    refine fR rfl ?_
    refine Mid.elemMap rfl rfl rfl h1 rfl rfl ?_
    refine fM rfl ?_
    refine lM rfl rfl rfl ?_
    refine p0 rfl ?_
    refine fM rfl ?_
    refine Mid.call (weightDirs_ok H n d.dirs q2 hdo.d) rfl rfl rfl rfl ?_
    refine p0 rfl ?_
    refine fM rfl ?_
    refine Mid.call (weightInputs_ok H n d.inputs q5 hdo.n) rfl rfl rfl rfl ?_
    refine p0 rfl ?_
    refine fM rfl ?_
    refine rList (pre n (fFld n) (defT n t d) d.fields) (fun j (t : Int) => { env := [(1, .t (.int .i64 n)), (2, .ptr 0 0), (5, .t (.int .i64 t)), (6, .t (.int .i64 i)), (7, .ptr 1 0), (8, .t (.int .i64 j))], s := ⟨[(1, .cells [.t (.int .i64 d.kind), .t (.str d.name), .t (.lst (d.implements.map sE)), .t (.lst (d.dirs.map Dir.enc)), .t (.lst (d.fields.map Field.enc)), .t (.lst (d.members.map Member.enc)), .t (.lst (d.inputs.map Input.enc))]), (0, .cells [.t (.lst (ds.map Def.enc))])], 2⟩ }) (fun r j t' => PreInv n (fFld n) d.fields (tot n (fFld n) (defT n t d) d.fields) r j t') 2 (defT n t d) rfl (pre_init ..) rfl rfl rfl ?_ ?_
    · intro t1 ht1
      obtain ⟨h1', h2'⟩ := pre_nil ht1
      refine fR rfl ?_
      refine lM rfl rfl rfl ?_
      refine fM rfl ?_
      refine Run.condF rfl rfl (by simp at h1' ⊢; omega) ?_
      refine fR rfl ?_
      refine rList (pre n (fMem n) t1 d.members) (fun j (t : Int) => { env := [(1, .t (.int .i64 n)), (2, .ptr 0 0), (5, .t (.int .i64 t)), (6, .t (.int .i64 i)), (7, .ptr 1 0), (9, .t (.int .i64 j))], s := ⟨[(1, .cells [.t (.int .i64 d.kind), .t (.str d.name), .t (.lst (d.implements.map sE)), .t (.lst (d.dirs.map Dir.enc)), .t (.lst (d.fields.map Field.enc)), .t (.lst (d.members.map Member.enc)), .t (.lst (d.inputs.map Input.enc))]), (0, .cells [.t (.lst (ds.map Def.enc))])], 2⟩ }) (fun r j t' => PreInv n (fMem n) d.members (tot n (fMem n) t1 d.members) r j t') 2 t1 rfl (pre_init ..) rfl rfl rfl ?_ ?_
      · intro t2 ht2
        obtain ⟨h1'', h2''⟩ := pre_nil ht2
        refine fR rfl ?_
        refine lM rfl rfl rfl ?_
        refine fM rfl ?_
        refine Run.condF rfl rfl (by simp at h1'' ⊢; omega) ?_
        refine fR rfl ?_
        refine aL rfl rfl rfl rfl rfl ?_
        refine fM rfl ?_
        exact rWeak 1 rfl (ih t2 (by rw [h2'', h2']; exact hnx)) rfl rfl rfl
      · intro j x r' t' _ hj hdd' hinv' ih'
        obtain ⟨k1, kj, kle, knx⟩ := pre_cons hinv'
        have hxo := hdo.m x (List.mem_of_getElem? k1)
        refine fR rfl ?_
        refine lM rfl rfl rfl ?_
        refine fM rfl ?_
        refine Run.condT rfl rfl (by simp; omega) ?_
        refine fR rfl ?_
        refine p0 rfl ?_
        refine fM rfl ?_
        refine Mid.elemMap rfl rfl rfl k1 rfl rfl ?_
        refine fM rfl ?_
        refine Mid.call (weightDirs_ok H n x.dirs hxo.l hxo.d) rfl rfl rfl rfl ?_
        refine p0 rfl ?_
        refine fM rfl ?_
        refine aL rfl rfl rfl rfl rfl ?_
        refine fM rfl ?_
        exact rWeak 2 rfl (ih' (fMem n t' x) knx) rfl rfl rfl
    · intro j x r' t' _ hj hdd' hinv' ih'
      obtain ⟨k1, kj, kle, knx⟩ := pre_cons hinv'
      have hxo := hdo.f x (List.mem_of_getElem? k1)
      have hwl := hxo.t.l
      refine fR rfl ?_
      refine lM rfl rfl rfl ?_
      refine fM rfl ?_
      refine Run.condT rfl rfl (by simp; omega) ?_
      refine fR rfl ?_
      refine p0 rfl ?_
      refine fM rfl ?_
      refine Mid.elemMap rfl rfl rfl k1 rfl rfl ?_
      refine fM rfl ?_
      refine lM rfl rfl rfl ?_
      refine p0 rfl ?_
      refine fM rfl ?_
      refine Mid.elemMap rfl rfl rfl k1 rfl rfl ?_
      refine fM rfl ?_
      refine Mid.call (weightInputs_ok H n x.args hxo.al hxo.a) rfl rfl rfl rfl ?_
      refine p0 rfl ?_
      refine fM rfl ?_
      refine Mid.elemMap rfl rfl rfl k1 rfl rfl ?_
      refine fM rfl ?_
      refine Mid.call (weightDirs_ok H n x.dirs hxo.l hxo.d) rfl rfl rfl rfl ?_
      refine p0 rfl ?_
      refine fM rfl ?_
      refine aL rfl rfl rfl rfl rfl ?_
      refine fM rfl ?_
      exact rWeak 2 rfl (ih' (fFld n t' x) knx) rfl rfl rfl
end Go.GB.C43

/-
  A43O: contracts of chapter 43's functions: deep, permitted, left, known.
-/
namespace Go.GB.C43
open Go.GB
set_option linter.unusedSimpArgs false
set_option linter.unusedVariables false
set_option maxRecDepth 100000
set_option maxHeartbeats 2000000
variable {P : Program}

/- deep: the number of picks, 201 for what lies too deep -/
def deepF : Nat → List Pick → Int
  | 0, _ => 201
  | k + 1, l => tot 200 (fun t p => IntKind.i64.wrap (t + deepF k p.picks)) (l.length : Nat) l
def fDeep (k : Nat) (t : Int) (p : Pick) : Int := IntKind.i64.wrap (t + deepF k p.picks)
theorem deepF_succ (k : Nat) (l : List Pick) : deepF (k + 1) l = tot 200 (fDeep k) (l.length : Nat) l := rfl
theorem deep_ok (H : Pr P) : ∀ (k : Nat) (l : List Pick) (lev : Int), l.length ≤ 140737488355328 → (∀ p, p ∈ l → p.Ok) → k ≤ 31 → lev = 31 - (k : Nat) →
    FnOk P 27 [.t (.lst (l.map Pick.enc)), .t (.int .i64 lev)] ⟨[], 0⟩ { v := .t (.int .i64 (deepF k l)) }
  | 0, l, lev, hl, hO, hk, he => by
    refine FnOk.run H.i27 H.mixed rfl rfl ?_
    refine fR rfl ?_
    refine Run.condT rfl rfl (by simp [he]) ?_
    refine fR rfl ?_
    refine Run.fin rfl (EndOk.go ?_); exact .t rfl
  | k + 1, l, lev, hl, hO, hk, he => by
    have hw := deepF_succ k l
    refine FnOk.run H.i27 H.mixed rfl rfl ?_
    refine fR rfl ?_
    refine Run.condF rfl rfl (by simp; omega) ?_
    refine fR rfl ?_
    refine lM rfl rfl rfl ?_
    refine fM rfl ?_
    refine rList (pre 200 (fDeep k) (l.length : Nat) l) (fun i (t : Int) => { env := [(0, .t (.lst (l.map Pick.enc))), (1, .t (.int .i64 lev)), (5, .t (.int .i64 t)), (6, .t (.int .i64 i))], s := ⟨[], 0⟩ }) (fun r i t => PreInv 200 (fDeep k) l (tot 200 (fDeep k) (l.length : Nat) l) r i t) 0 (l.length : Nat) rfl (pre_init ..) rfl rfl rfl ?_ ?_
    · intro t ht
      obtain ⟨h1, h2⟩ := pre_nil ht
      refine fR rfl ?_
      refine lM rfl rfl rfl ?_
      refine fM rfl ?_
      refine Run.condF rfl rfl (by simp at h1 ⊢; omega) ?_
      refine fR rfl ?_
      refine Run.fin rfl (EndOk.go ?_); exact .t (by rw [hw, h2])
    · intro i x r t _ hi hd hinv ih
      obtain ⟨h1, hi', hle, hnx⟩ := pre_cons hinv
      have hx := hO x (List.mem_of_getElem? h1)
      have hc := deep_ok H k x.picks (lev + 1) (by have := hx.pl; omega) hx.p (by omega) (by omega)
      refine fR rfl ?_
      refine lM rfl rfl rfl ?_
      refine fM rfl ?_
      refine Run.condT rfl rfl (by simp; omega) ?_
      refine fR rfl ?_
      refine Mid.elemMapC (Pick.enc_eq x) rfl rfl rfl h1 rfl rfl ?_
      refine fM rfl ?_
      refine a64 rfl rfl rfl ?_
      refine Mid.call (hc) rfl rfl rfl rfl ?_
      refine p0 rfl ?_
      refine fM rfl ?_
      refine aL rfl rfl rfl rfl rfl ?_
      refine fM rfl ?_
      exact rWeak 0 rfl (ih (fDeep k t x) hnx) rfl rfl rfl

mutual
def permP (m : Str → Str → Bool) : Pick → Bool
  | .mk _ o n _ _ _ _ ps => m o n && perms m ps
def perms (m : Str → Str → Bool) : List Pick → Bool
  | [] => true
  | p :: r => permP m p && perms m r
end
theorem permP_eq (m : Str → Str → Bool) (p : Pick) : permP m p = (m p.on p.name && perms m p.picks) := by cases p; simp [permP, Pick.on, Pick.name, Pick.picks]
def PermC (P : Program) (ds : List Def) (u : User) (l : List Pick) : Prop := FnOk P 28 [docV ds, .t (.lst (l.map Pick.enc)), u.v] ⟨[], 0⟩ { v := .t (.bool (perms (mayP ds u) l)) }
theorem permitted_step (H : Pr P) (ds : List Def) (ho : DocOk ds) (u : User) (hu : u.scopes.length ≤ 140737488355328) (l : List Pick) (hl : l.length ≤ 140737488355328) (hO : ∀ p, p ∈ l → p.Ok)
    (hrec : ∀ p, p ∈ l → PermC P ds u p.picks) : PermC P ds u l := by
  unfold PermC
  refine FnOk.run H.i28 H.mixed rfl rfl ?_
  refine fR rfl ?_
  refine rList l (fun i (_ : Unit) => { env := [(1, .t (.lst (l.map Pick.enc))), (3, .ptr 0 0), (5, .ptr 1 0), (7, .t (.int .i64 i))], s := ⟨[(0, .cells [.t (.lst (ds.map Def.enc))]), (1, .cells [.t (.bool u.known), .t (.lst (u.scopes.map sE))])], 2⟩ }) (fun r i _ => perms (mayP ds u) l = perms (mayP ds u) r) 2 () rfl rfl rfl rfl rfl ?_ ?_
  · intro _ hh
    refine fR rfl ?_
    refine lM rfl rfl rfl ?_
    refine fM rfl ?_
    refine Run.condF rfl rfl (by simp) ?_
    refine fR rfl ?_
    refine Run.fin rfl (EndOk.go ?_); exact .t (by simp [hh, perms])
  · intro i x r _ h1 hi hd hinv ih
    have hxm := List.mem_of_getElem? h1
    have hx := hO x hxm
    have hc := hrec x hxm
    unfold PermC at hc
    have hpe := permP_eq (mayP ds u) x
    refine fR rfl ?_
    refine lM rfl rfl rfl ?_
    refine fM rfl ?_
    refine Run.condT rfl rfl (by simp; omega) ?_
    refine fR rfl ?_
    refine Mid.elemMapC (Pick.enc_eq x) rfl rfl rfl h1 rfl rfl ?_
    refine fM rfl ?_
    refine Mid.elemMapC (Pick.enc_eq x) rfl rfl rfl h1 rfl rfl ?_
    refine fM rfl ?_
    refine Mid.call (may_ok H ds ho x.on x.name u hu) rfl rfl rfl rfl ?_
    refine fM rfl ?_
    refine Mid.elemMapCG (Pick.enc_eq x) rfl rfl rfl rfl h1 rfl (by (repeat' (first | exact trivial | exact Bool.not_or_self _ | exact grd1 _ | exact grd2 _ | exact grd3 _ _ | exact grd4 _ _ | refine And.intro ?_ ?_ | exact rfl | (simp; done) | (simp <;> omega))); done) (by (repeat' (first | exact trivial | exact Bool.not_or_self _ | exact grd1 _ | exact grd2 _ | exact grd3 _ _ | exact grd4 _ _ | refine And.intro ?_ ?_ | exact rfl | (simp; done) | (simp <;> omega))); done) rfl ?_
    refine fM rfl ?_
    refine caG rfl rfl (fun hg => ⟨_, rfl, hc, rfl⟩) rfl rfl ?_
    refine fM rfl ?_
    refine Run.cond rfl rfl (fun hm => ?_) (fun hm => ?_)
    · have : permP (mayP ds u) x = false := by
        rw [hpe]; revert hm; cases mayP ds u x.on x.name <;> cases perms (mayP ds u) x.picks <;> simp
      refine fR rfl ?_
      refine Run.fin rfl (EndOk.go ?_); exact .t (by simp [hinv, perms, this])
    · have : permP (mayP ds u) x = true := by
        rw [hpe]; revert hm; cases mayP ds u x.on x.name <;> cases perms (mayP ds u) x.picks <;> simp
      refine fR rfl ?_
      refine aL rfl rfl rfl rfl rfl ?_
      refine fM rfl ?_
      exact rWeak 2 rfl (ih () (by rw [hinv]; simp [perms, this])) rfl rfl rfl
theorem permitted_ok (H : Pr P) (ds : List Def) (ho : DocOk ds) (u : User) (hu : u.scopes.length ≤ 140737488355328) : ∀ (k : Nat) (l : List Pick), SizeOf.sizeOf l ≤ k → l.length ≤ 140737488355328 → (∀ p, p ∈ l → p.Ok) → PermC P ds u l
  | 0, l, h, _, _ => by cases l <;> simp at h
  | k + 1, l, h, hl, hO => permitted_step H ds ho u hu l hl hO fun p hp => permitted_ok H ds ho u hu k p.picks (by
      have h1 := List.sizeOf_lt_of_mem hp
      have h2 : SizeOf.sizeOf p.picks < SizeOf.sizeOf p := by cases p; simp [Pick.picks]; omega
      omega) (by have := (hO p hp).pl; omega) (hO p hp).p
end Go.GB.C43

/-
  A43P: contracts of chapter 43's functions: left, known.
-/
namespace Go.GB.C43
open Go.GB
set_option linter.unusedSimpArgs false
set_option linter.unusedVariables false
set_option maxRecDepth 100000
set_option maxHeartbeats 2000000
variable {P : Program}

mutual
def leftP (m : Str → Str → Bool) : Pick → Nat
  | .mk _ o n _ _ _ _ ps => if m o n = true then ps.length + leftS m ps else 0
def leftS (m : Str → Str → Bool) : List Pick → Nat
  | [] => 0
  | p :: r => leftP m p + leftS m r
end
def lefts (m : Str → Str → Bool) (l : List Pick) : Nat := l.length + leftS m l
theorem leftP_eq (m : Str → Str → Bool) (p : Pick) : leftP m p = if m p.on p.name = true then lefts m p.picks else 0 := by cases p; simp only [leftP, lefts, Pick.on, Pick.name, Pick.picks]; rfl
theorem left_le (m : Str → Str → Bool) : ∀ (k : Nat) (l : List Pick), Pick.cnts l ≤ k → lefts m l ≤ Pick.cnts l
  | _, [], _ => by simp [lefts, leftS]
  | 0, p :: r, h => by have := Pick.cnt_eq p; simp [Pick.cnts] at h; omega
  | k + 1, p :: r, h => by
    have hc := Pick.cnt_eq p
    simp only [Pick.cnts] at h
    have h1 := left_le m k p.picks (by omega)
    have h2 := left_le m k r (by omega)
    have h3 := leftP_eq m p
    simp only [lefts, leftS, List.length_cons, Pick.cnts] at *
    split at h3 <;> omega
def LeftC (P : Program) (ds : List Def) (u : User) (l : List Pick) : Prop := FnOk P 31 [docV ds, .t (.lst (l.map Pick.enc)), u.v] ⟨[], 0⟩ { v := .t (.int .i64 (lefts (mayP ds u) l : Nat)) }
theorem left_step (H : Pr P) (ds : List Def) (ho : DocOk ds) (u : User) (hu : u.scopes.length ≤ 140737488355328) (l : List Pick) (hO : ∀ p, p ∈ l → p.Ok) (hn : Pick.cnts l ≤ 10000)
    (hrec : ∀ p, p ∈ l → LeftC P ds u p.picks) : LeftC P ds u l := by
  have hll := Pick.cnts_len l
  have hle := left_le (mayP ds u) _ l (Nat.le_refl _)
  unfold LeftC
  refine FnOk.run H.i31 H.mixed rfl rfl ?_
  refine fR rfl ?_
  refine lM rfl rfl rfl ?_
  refine fM rfl ?_
  refine rList l (fun i (t : Nat) => { env := [(1, .t (.lst (l.map Pick.enc))), (3, .ptr 0 0), (5, .ptr 1 0), (7, .t (.int .i64 (t : Nat))), (8, .t (.int .i64 i))], s := ⟨[(0, .cells [.t (.lst (ds.map Def.enc))]), (1, .cells [.t (.bool u.known), .t (.lst (u.scopes.map sE))])], 2⟩ }) (fun r i t => t + leftS (mayP ds u) r = lefts (mayP ds u) l) 2 l.length rfl (by simp [lefts]) rfl rfl rfl ?_ ?_
  · intro t hh
    refine fR rfl ?_
    refine lM rfl rfl rfl ?_
    refine fM rfl ?_
    refine Run.condF rfl rfl (by simp) ?_
    refine fR rfl ?_
    refine Run.fin rfl (EndOk.go ?_); exact .t (by simp [← hh, leftS])
  · intro i x r t h1 hi hd hinv ih
    have hxm := List.mem_of_getElem? h1
    have hx := hO x hxm
    have hc := hrec x hxm
    unfold LeftC at hc
    have hpe := leftP_eq (mayP ds u) x
    have hinv' : t + (leftP (mayP ds u) x + leftS (mayP ds u) r) = lefts (mayP ds u) l := hinv
    refine fR rfl ?_
    refine lM rfl rfl rfl ?_
    refine fM rfl ?_
    refine Run.condT rfl rfl (by simp; omega) ?_
    refine fR rfl ?_
    refine Mid.elemMapC (Pick.enc_eq x) rfl rfl rfl h1 rfl rfl ?_
    refine fM rfl ?_
    refine Mid.elemMapC (Pick.enc_eq x) rfl rfl rfl h1 rfl rfl ?_
    refine fM rfl ?_
    refine Mid.call (may_ok H ds ho x.on x.name u hu) rfl rfl rfl rfl ?_
    refine fM rfl ?_
    refine Run.cond rfl rfl (fun hm => ?_) (fun hm => ?_)
    · have hm' : mayP ds u x.on x.name = true := by simpa using hm
      rw [hm', if_pos rfl] at hpe
      refine fR rfl ?_
      refine Mid.elemMapC (Pick.enc_eq x) rfl rfl rfl h1 rfl rfl ?_
      refine fM rfl ?_
      refine Mid.call (hc) rfl rfl rfl rfl ?_
      refine aN rfl rfl rfl ?_
      refine fM rfl ?_
      refine aL rfl rfl rfl rfl rfl ?_
      refine fM rfl ?_
      exact rWeak 2 rfl (ih (t + lefts (mayP ds u) x.picks) (by omega)) rfl rfl rfl
    · have hm' : mayP ds u x.on x.name = false := by simpa using hm
      rw [hm', if_neg (by simp)] at hpe
      refine fR rfl ?_
      refine aL rfl rfl rfl rfl rfl ?_
      refine fM rfl ?_
      exact rWeak 2 rfl (ih t (by omega)) rfl rfl rfl
theorem left_ok (H : Pr P) (ds : List Def) (ho : DocOk ds) (u : User) (hu : u.scopes.length ≤ 140737488355328) : ∀ (k : Nat) (l : List Pick), SizeOf.sizeOf l ≤ k → Pick.cnts l ≤ 10000 → (∀ p, p ∈ l → p.Ok) → LeftC P ds u l
  | 0, l, h, _, _ => by cases l <;> simp at h
  | k + 1, l, h, hl, hO => left_step H ds ho u hu l hO hl fun p hp => left_ok H ds ho u hu k p.picks (by
      have h1 := List.sizeOf_lt_of_mem hp
      have h2 : SizeOf.sizeOf p.picks < SizeOf.sizeOf p := by cases p; simp [Pick.picks]; omega
      omega) (by have := cnt_le hp; have := Pick.cnt_eq p; omega) (hO p hp).p

/- known: every scope is a text that is a, b or c -/
def okScope (x : Val) : Bool := x.kind == 3 && (x.text == [97] || x.text == [98] || x.text == [99])
def okArg (a : Arg) : Bool := a.val.items.all okScope
def scopeArgs (d : Dir) : List Arg := if d.name = scopesS then d.args else []
def knownP (l : List Dir) : Bool := l.all fun d => (scopeArgs d).all okArg
theorem scopeArgs_at {d : Dir} {j : Nat} {a : Arg} (h : (scopeArgs d)[j]? = some a) : d.args[j]? = some a ∧ j < d.args.length ∧ d.name = scopesS := by
  unfold scopeArgs at h
  split at h
  · rename_i hn
    refine ⟨h, ?_, hn⟩
    obtain ⟨hj, _⟩ := List.getElem?_eq_some_iff.1 h; exact hj
  · simp at h
theorem scopeArgs_end (d : Dir) : ¬ ((scopeArgs d).length < d.args.length ∧ d.name = scopesS) := by
  rintro ⟨h1, h2⟩
  unfold scopeArgs at h1
  rw [if_pos h2] at h1; omega
theorem known_ok (H : Pr P) (l : List Dir) (hl : l.length ≤ 140737488355328) (hO : ∀ d, d ∈ l → d.Ok) : FnOk P 29 [.t (.lst (l.map Dir.enc))] ⟨[], 0⟩ { v := .t (.bool (knownP l)) } := by
  refine FnOk.run H.i29 H.mixed rfl rfl ?_
  refine fR rfl ?_
  refine rList l (fun i (_ : Unit) => { env := [(0, .t (.lst (l.map Dir.enc))), (3, .t (.int .i64 i))], s := ⟨[], 0⟩ }) (fun r i _ => knownP l = knownP r) 0 () rfl rfl rfl rfl rfl ?_ ?_
  · intro _ hh
    refine fR rfl ?_
    refine lM rfl rfl rfl ?_
    refine fM rfl ?_
    refine Run.condF rfl rfl (by simp) ?_
    refine fR rfl ?_
    refine Run.fin rfl (EndOk.go ?_); exact .t (by rw [hh]; simp [knownP])
  · intro i d r _ h1 hi hd hinv ih
    have hdo := hO d (List.mem_of_getElem? h1)
    have hal := hdo.l
    have hend := scopeArgs_end d
    have hinv' : knownP l = ((scopeArgs d).all okArg && knownP r) := by rw [hinv]; simp [knownP]
    refine fR rfl ?_
    refine lM rfl rfl rfl ?_
    refine fM rfl ?_
    refine Run.condT rfl rfl (by simp; omega) ?_
    refine fR rfl ?_
    refine rList (scopeArgs d) (fun j (_ : Unit) => { env := [(0, .t (.lst (l.map Dir.enc))), (3, .t (.int .i64 i)), (4, .t (.int .i64 j))], s := ⟨[], 0⟩ }) (fun r' j _ => knownP l = (r'.all okArg && knownP r)) 0 () rfl hinv' rfl rfl rfl ?_ ?_
    · intro _ hh
      refine fR rfl ?_
      refine Mid.elemMap rfl rfl rfl h1 rfl rfl ?_
      refine fM rfl ?_
      refine lM rfl rfl rfl ?_
      refine fM rfl ?_
      refine elG rfl rfl rfl rfl h1 rfl rfl ?_
      refine fM rfl ?_
      refine Run.condF rfl rfl (by simp at hend ⊢; exact hend) ?_
      refine fR rfl ?_
      refine aL rfl rfl rfl rfl rfl ?_
      refine fM rfl ?_
      exact rWeak 0 rfl (ih () (by simpa using hh)) rfl rfl rfl
    · intro j a r' _ ha' hj hjd hh ihj
      obtain ⟨ha, hj', hna⟩ := scopeArgs_at ha'
      have hao : a.val.Ok := hdo.a a (List.mem_of_getElem? ha)
      have hil := hao.il
      have hh' : knownP l = (a.val.items.all okScope && (r'.all okArg && knownP r)) := by rw [hh]; simp [okArg, Bool.and_assoc]
      refine fR rfl ?_
      refine Mid.elemMap rfl rfl rfl h1 rfl rfl ?_
      refine fM rfl ?_
      refine lM rfl rfl rfl ?_
      refine fM rfl ?_
      refine elG rfl rfl rfl rfl h1 rfl rfl ?_
      refine fM rfl ?_
      refine Run.condT rfl rfl (by simp [hna, scopesS]; omega) ?_
      refine fR rfl ?_
      refine Mid.elemMap rfl rfl rfl h1 rfl rfl ?_
      refine fM rfl ?_
      refine Mid.elemMap rfl rfl rfl ha rfl rfl ?_
      refine fM rfl ?_
      refine rList a.val.items (fun k (_ : Unit) => { env := [(0, .t (.lst (l.map Dir.enc))), (3, .t (.int .i64 i)), (4, .t (.int .i64 j)), (5, .ptr 0 0), (6, .t (.int .i64 k))], s := ⟨[(0, .cells [.t (.int .i64 a.val.kind), .t (.int .i64 a.val.int), .t (.str a.val.text), .t (.lst (a.val.items.map Val.enc)), .t (.lst (a.val.keys.map sE))])], 1⟩ }) (fun r'' k _ => knownP l = (r''.all okScope && (r'.all okArg && knownP r))) 1 () rfl hh' rfl rfl rfl ?_ ?_
      · intro _ hhh
        refine fR rfl ?_
        refine lM rfl rfl rfl ?_
        refine fM rfl ?_
        refine Run.condF rfl rfl (by simp) ?_
        refine fR rfl ?_
        refine aL rfl rfl rfl rfl rfl ?_
        refine fM rfl ?_
        exact rWeak 0 rfl (ihj () (by simpa using hhh)) rfl rfl rfl
      · intro k x r'' _ hx hk hkd hhh ihk
        have hhh' : knownP l = (okScope x && (r''.all okScope && (r'.all okArg && knownP r))) := by rw [hhh]; simp [Bool.and_assoc]
        refine fR rfl ?_
        refine lM rfl rfl rfl ?_
        refine fM rfl ?_
        refine Run.condT rfl rfl (by simp; omega) ?_
        refine fR rfl ?_
        refine Mid.elemMapC (Val.enc_eq x) rfl rfl rfl hx rfl rfl ?_
        refine fM rfl ?_
        refine Mid.elemMapC (Val.enc_eq x) rfl rfl rfl hx rfl rfl ?_
        refine fM rfl ?_
        refine Run.cond rfl rfl (fun hb => ?_) (fun hb => ?_)
        · have : okScope x = false := by
            unfold okScope
            revert hb; simp only [bne]; cases (x.kind == 3) <;> cases (x.text == [97]) <;> cases (x.text == [98]) <;> cases (x.text == [99]) <;> simp
          refine fR rfl ?_
          refine Run.fin rfl (EndOk.go ?_); exact .t (by simp [hhh', this])
        · have : okScope x = true := by
            unfold okScope
            revert hb; simp only [bne]; cases (x.kind == 3) <;> cases (x.text == [97]) <;> cases (x.text == [98]) <;> cases (x.text == [99]) <;> simp
          refine fR rfl ?_
          refine aL rfl rfl rfl rfl rfl ?_
          refine fM rfl ?_
          exact rWeak 1 rfl (ihk () (by rw [hhh', this]; simp)) rfl rfl rfl
end Go.GB.C43

/-
  A43Q: contracts of chapter 43's functions: text, exact.
-/
namespace Go.GB.C43
open Go.GB
set_option linter.unusedSimpArgs false
set_option linter.unusedVariables false
set_option maxRecDepth 100000
set_option maxHeartbeats 2000000
variable {P : Program}

theorem text2_ok (H : Pr P) (s : Str) : FnOk P 48 [.t (.str s)] ⟨[], 0⟩ { v := (textV s).v } := by
  refine FnOk.run H.i48 H.mixed rfl rfl ?_
  refine fR rfl ?_
  refine Run.fin rfl (EndOk.go ?_); exact .agg (.cons (.t rfl) (.cons (.t rfl) (.cons (.t rfl) (.cons (.nil rfl) (.cons (.nil rfl) .nil)))))

/- exact: the response is just what the selections ask for -/
def tn (v : Val) : Str := (v.items.head?.getD Val.zero).text
def exPicks (f : List Pick → Val → Bool) (v : Val) : Nat → List Pick → Bool
  | n, [] => decide (n = v.keys.length)
  | n, p :: r => if p.on = tn v then
      (match v.keys[n]?, v.items[n]? with
        | some key, some x => decide (key = p.key) && f p.picks x && !(decide (key ∈ v.keys.take n)) && exPicks f v (n + 1) r
        | _, _ => false)
      else exPicks f v n r
def hdOk (v : Val) : Bool := decide (v.keys.length = v.items.length) && decide (v.keys.head? = some tS) && decide (v.items.head? = some (textV (tn v))) && decide (v.int = 0) && decide (v.text = [])
def exF : Nat → List Pick → Val → Bool
  | 0, _, _ => false
  | k + 1, l, v =>
    if v.kind = 5 then v.items.all (exF k l) && decide (v.keys = []) && decide (v.int = 0) && decide (v.text = [])
    else if v.kind = 6 then hdOk v && exPicks (exF k) v 1 l
    else true
def ExC (P : Program) (k : Nat) (l : List Pick) (v : Val) : Prop := FnOk P 30 [.t (.lst (l.map Pick.enc)), v.v] ⟨[], 0⟩ { v := .t (.bool (exF k l v)) }
def items5 (v : Val) : List Val := if v.kind = 5 then v.items else []
theorem items5_at {v : Val} {j : Nat} {a : Val} (h : (items5 v)[j]? = some a) : v.items[j]? = some a ∧ j < v.items.length ∧ v.kind = 5 := by
  unfold items5 at h
  split at h
  · rename_i hn
    obtain ⟨hj, _⟩ := List.getElem?_eq_some_iff.1 h; exact ⟨h, hj, hn⟩
  · simp at h
theorem items5_end (v : Val) : ¬ ((items5 v).length < v.items.length ∧ v.kind = 5) := by
  rintro ⟨h1, h2⟩
  unfold items5 at h1
  rw [if_pos h2] at h1; omega
section
variable {n m : Nat} {R : St → Prop} {draw : Bool} {all : List AO} {after : List (List Nat)} {live : List Nat} {k : List It} {b : Nat} {fl : List (Bool × Bool)} {ops : List AO} {st st' : St} {d : Option Nat}
/-- an index past the end, guarded away -/
theorem elemOffG {α : Type} {f : α → List T} {l : List α} {sz j : Nat} {s : Nat} {want gc : Bool} {x i : Ar} {v : V} {kd : IntKind} {p1 p2 : List Bool} (hg : gcondF want (look st.env s) = some gc) (hx : rd gc st x = (v, p1)) (hv : v.cell1 = some (.lst (l.map f))) (hi : rd gc st i = (.t (.int kd j), p2)) (hc : l.length ≤ j) (hf : gc = false)
    (hl : looksE st (.ia sz x i) = false) (hs : stepV st d (.gd false .top) some = some st') (h' : Mid P n m R draw all after live k b ((false, false) :: fl) ops st') : Mid P n m R draw all after live k b fl (⟨d, some (s, want), .ia sz x i⟩ :: ops) st := by
  have hc' : (l.map f)[j]? = none := List.getElem?_eq_none (by simpa using hc)
  refine Mid.grdF hg hf ?_ hl hs h'
  simp only [evalE, hx, hi]
  cases v <;> simp_all [V.cell1]
end
theorem exact_step (H : Pr P) (k : Nat) (l : List Pick) (v : Val) (hl : l.length ≤ 140737488355328) (hO : ∀ p, p ∈ l → p.Ok) (hv : v.Ok)
    (hrec : ∀ x, x ∈ v.items → ∀ l' : List Pick, l'.length ≤ 140737488355328 → (∀ p, p ∈ l' → p.Ok) → ExC P k l' x) : ExC P (k + 1) l v := by
  have hil := hv.il
  have hkl := hv.kl
  have hend := items5_end v
  have hE : exF (k + 1) l v = if v.kind = 5 then v.items.all (exF k l) && decide (v.keys = []) && decide (v.int = 0) && decide (v.text = [])
    else if v.kind = 6 then hdOk v && exPicks (exF k) v 1 l else true := rfl
  unfold ExC
  generalize exF (k + 1) l v = E at hE ⊢
  have hE5 : v.kind = 5 → E = ((items5 v).all (exF k l) && (decide (v.keys = []) && decide (v.int = 0) && decide (v.text = []))) := by
    intro h5; rw [hE, if_pos h5]; simp [items5, h5, Bool.and_assoc]
  refine FnOk.run H.i30 H.mixed rfl rfl ?_
  refine fR rfl ?_
  refine rList (items5 v) (fun i (_ : Unit) => { env := [(0, .t (.lst (l.map Pick.enc))), (3, .ptr 0 0), (5, .t (.int .i64 i))], s := ⟨[(0, .cells [.t (.int .i64 v.kind), .t (.int .i64 v.int), .t (.str v.text), .t (.lst (v.items.map Val.enc)), .t (.lst (v.keys.map sE))])], 1⟩ }) (fun r i _ => v.kind = 5 → E = (r.all (exF k l) && (decide (v.keys = []) && decide (v.int = 0) && decide (v.text = [])))) 1 () rfl hE5 rfl rfl rfl ?_ ?_
  · intro _ hh
    refine fR rfl ?_
    refine lM rfl rfl rfl ?_
    refine fM rfl ?_
    refine Run.condF rfl rfl (by simp at hend ⊢; exact hend) ?_
    refine fR rfl ?_
    refine lMG rfl rfl rfl rfl ?_
    refine fM rfl ?_
    refine Run.cond rfl rfl (fun h5 => ?_) (fun h5 => ?_)
    · have : E = false := by
        simp only [Bool.and_eq_true, Bool.or_eq_true, beq_iff_eq] at h5
        rw [hE5 h5.1]
        have h5' := h5.2
        simp at h5' ⊢
        intro _ h7 h8 h9
        simp [h7, h8, h9] at h5'
      refine fR rfl ?_
      refine Run.fin rfl (EndOk.go ?_); exact .t (by rw [this])
    · have h5' : v.kind = 5 → E = true := by
        intro hk
        rw [hh hk]
        simp [hk] at h5
        simp [h5]
      refine fR rfl ?_
      refine Run.cond rfl rfl (fun h6 => ?_) (fun h6 => ?_)
      · have : E = true := by
          by_cases hk : v.kind = 5
          · exact h5' hk
          · rw [hE, if_neg hk, if_neg (by simpa using h6)]
        refine fR rfl ?_
        refine Run.fin rfl (EndOk.go ?_); exact .t (by rw [this])
      · have h6' : v.kind = 6 := by simpa using h6
        have hE6 : E = (hdOk v && exPicks (exF k) v 1 l) := by rw [hE, if_neg (by omega), if_pos h6']
        refine fR rfl ?_
        refine lM rfl rfl rfl ?_
        refine fM rfl ?_
        refine lM rfl rfl rfl ?_
        refine fM rfl ?_
        refine lMG rfl rfl rfl rfl ?_
        refine fM rfl ?_
        by_cases hks : v.keys = []
        · have hdf : hdOk v = false := by simp [hdOk, hks]
          rw [hdf, Bool.false_and] at hE6
          generalize hb : ((((v.keys.length : Nat) : Int) != (v.items.length : Nat)) || (((v.keys.length : Nat) : Int) == 0)) = b
          obtain rfl : b = true := by rw [← hb, hks]; simp
          rw [hks]
          by_cases his : v.items = []
          · rw [his]
            refine Mid.grdF rfl rfl rfl rfl rfl ?_
            refine Mid.grdF rfl rfl rfl rfl rfl ?_
            refine Mid.grdF rfl rfl rfl rfl rfl ?_
            refine fM rfl ?_
            refine Mid.grdF rfl rfl rfl rfl rfl ?_
            refine Mid.grdF rfl rfl rfl rfl rfl ?_
            refine Mid.grdF rfl rfl rfl rfl rfl ?_
            refine Mid.grdF rfl rfl rfl rfl rfl ?_
            refine fM rfl ?_
            refine Mid.grdF rfl rfl rfl rfl rfl ?_
            refine Mid.grdF rfl rfl rfl rfl rfl ?_
            refine fM rfl ?_
            refine Mid.grdF rfl rfl rfl rfl rfl ?_
            refine Mid.grdF rfl rfl rfl rfl rfl ?_
            refine Mid.grdF rfl rfl rfl rfl rfl ?_
            refine Mid.grdF rfl rfl rfl rfl rfl ?_
            refine Mid.grdF rfl rfl rfl rfl rfl ?_
            refine Mid.grdF rfl rfl rfl rfl rfl ?_
            refine fM rfl ?_
            refine Run.condT rfl rfl rfl ?_
            refine fR rfl ?_
            refine Run.fin rfl (EndOk.go ?_); exact .t (by simp [hE6])
          · obtain ⟨x0, hx0⟩ : ∃ x0, v.items[0]? = some x0 := ⟨v.items[0]'(List.length_pos_iff.2 his), by simp⟩
            refine Mid.grdF rfl rfl rfl rfl rfl ?_
            refine Mid.grdF rfl rfl rfl rfl rfl ?_
            refine Mid.grdF rfl rfl rfl rfl rfl ?_
            refine fM rfl ?_
            refine Mid.elemMapCG (Val.enc_eq x0) rfl rfl rfl rfl hx0 rfl (by (repeat' (first | exact trivial | exact Bool.not_or_self _ | exact grd1 _ | exact grd2 _ | exact grd3 _ _ | exact grd4 _ _ | refine And.intro ?_ ?_ | exact rfl | (simp; done) | (simp <;> omega))); done) (by (repeat' (first | exact trivial | exact Bool.not_or_self _ | exact grd1 _ | exact grd2 _ | exact grd3 _ _ | exact grd4 _ _ | refine And.intro ?_ ?_ | exact rfl | (simp; done) | (simp <;> omega))); done) rfl ?_
            refine fM rfl ?_
            skip
            refine Mid.elemMapCG (Val.enc_eq x0) rfl rfl rfl rfl hx0 rfl (by (repeat' (first | exact trivial | exact Bool.not_or_self _ | exact grd1 _ | exact grd2 _ | exact grd3 _ _ | exact grd4 _ _ | refine And.intro ?_ ?_ | exact rfl | (simp; done) | (simp <;> omega))); done) (by (repeat' (first | exact trivial | exact Bool.not_or_self _ | exact grd1 _ | exact grd2 _ | exact grd3 _ _ | exact grd4 _ _ | refine And.intro ?_ ?_ | exact rfl | (simp; done) | (simp <;> omega))); done) rfl ?_
            refine fM rfl ?_
            skip
            refine Mid.elemMapCG (Val.enc_eq x0) rfl rfl rfl rfl hx0 rfl (by (repeat' (first | exact trivial | exact Bool.not_or_self _ | exact grd1 _ | exact grd2 _ | exact grd3 _ _ | exact grd4 _ _ | refine And.intro ?_ ?_ | exact rfl | (simp; done) | (simp <;> omega))); done) (by (repeat' (first | exact trivial | exact Bool.not_or_self _ | exact grd1 _ | exact grd2 _ | exact grd3 _ _ | exact grd4 _ _ | refine And.intro ?_ ?_ | exact rfl | (simp; done) | (simp <;> omega))); done) rfl ?_
            refine fM rfl ?_
            refine Mid.grdF rfl rfl rfl rfl rfl ?_
            refine Mid.grdF rfl rfl rfl rfl rfl ?_
            refine Mid.grdF rfl rfl rfl rfl rfl ?_
            refine fM rfl ?_
            refine Run.condT rfl rfl rfl ?_
            refine fR rfl ?_
            refine Run.fin rfl (EndOk.go ?_); exact .t (by simp [hE6])
        · obtain ⟨k0, hk0⟩ : ∃ k0, v.keys[0]? = some k0 := ⟨v.keys[0]'(List.length_pos_iff.2 hks), by simp⟩
          by_cases his : v.items = []
          · have hdf : hdOk v = false := by simp [hdOk, his]
            rw [hdf, Bool.false_and] at hE6
            generalize hb : ((((v.keys.length : Nat) : Int) != (v.items.length : Nat)) || (((v.keys.length : Nat) : Int) == 0)) = b
            obtain rfl : b = true := by rw [← hb, his]; simp [hks]
            rw [his]
            refine elG rfl rfl rfl rfl hk0 rfl rfl ?_
            refine fM rfl ?_
            refine Mid.grdF rfl rfl rfl rfl rfl ?_
            refine Mid.grdF rfl rfl rfl rfl rfl ?_
            refine Mid.grdF rfl rfl rfl rfl rfl ?_
            refine Mid.grdF rfl rfl rfl rfl rfl ?_
            refine fM rfl ?_
            refine Mid.grdF rfl rfl rfl rfl rfl ?_
            refine Mid.grdF rfl rfl rfl rfl rfl ?_
            refine fM rfl ?_
            refine Mid.grdF rfl rfl rfl rfl rfl ?_
            refine Mid.grdF rfl rfl rfl rfl rfl ?_
            refine Mid.grdF rfl rfl rfl rfl rfl ?_
            refine Mid.grdF rfl rfl rfl rfl rfl ?_
            refine Mid.grdF rfl rfl rfl rfl rfl ?_
            refine Mid.grdF rfl rfl rfl rfl rfl ?_
            refine fM rfl ?_
            refine Run.condT rfl rfl rfl ?_
            refine fR rfl ?_
            refine Run.fin rfl (EndOk.go ?_); exact .t (by simp [hE6])
          obtain ⟨x0, hx0⟩ : ∃ x0, v.items[0]? = some x0 := ⟨v.items[0]'(List.length_pos_iff.2 his), by simp⟩
          have hx0o := hv.it x0 (List.mem_of_getElem? hx0)
          have htn : tn v = x0.text := by unfold tn; rw [List.head?_eq_getElem?, hx0]; rfl
          have hhd : hdOk v = (decide (v.keys.length = v.items.length) && decide (k0 = tS) && decide (x0 = textV x0.text) && decide (v.int = 0) && decide (v.text = [])) := by
            unfold hdOk; rw [List.head?_eq_getElem?, hk0, List.head?_eq_getElem?, hx0, htn]; simp
          refine elG rfl rfl rfl rfl hk0 rfl rfl ?_
          refine fM rfl ?_
          refine Mid.elemMapCG (Val.enc_eq x0) rfl rfl rfl rfl hx0 rfl (by (repeat' (first | exact trivial | exact Bool.not_or_self _ | exact grd1 _ | exact grd2 _ | exact grd3 _ _ | exact grd4 _ _ | refine And.intro ?_ ?_ | exact rfl | (simp; done) | (simp <;> omega))); done) (by (repeat' (first | exact trivial | exact Bool.not_or_self _ | exact grd1 _ | exact grd2 _ | exact grd3 _ _ | exact grd4 _ _ | refine And.intro ?_ ?_ | exact rfl | (simp; done) | (simp <;> omega))); done) rfl ?_
          refine fM rfl ?_
          refine Mid.elemMapCG (Val.enc_eq x0) rfl rfl rfl rfl hx0 rfl (by (repeat' (first | exact trivial | exact Bool.not_or_self _ | exact grd1 _ | exact grd2 _ | exact grd3 _ _ | exact grd4 _ _ | refine And.intro ?_ ?_ | exact rfl | (simp; done) | (simp <;> omega))); done) (by (repeat' (first | exact trivial | exact Bool.not_or_self _ | exact grd1 _ | exact grd2 _ | exact grd3 _ _ | exact grd4 _ _ | refine And.intro ?_ ?_ | exact rfl | (simp; done) | (simp <;> omega))); done) rfl ?_
          refine fM rfl ?_
          refine Mid.elemMapCG (Val.enc_eq x0) rfl rfl rfl rfl hx0 rfl (by (repeat' (first | exact trivial | exact Bool.not_or_self _ | exact grd1 _ | exact grd2 _ | exact grd3 _ _ | exact grd4 _ _ | refine And.intro ?_ ?_ | exact rfl | (simp; done) | (simp <;> omega))); done) (by (repeat' (first | exact trivial | exact Bool.not_or_self _ | exact grd1 _ | exact grd2 _ | exact grd3 _ _ | exact grd4 _ _ | refine And.intro ?_ ?_ | exact rfl | (simp; done) | (simp <;> omega))); done) rfl ?_
          refine fM rfl ?_
          refine caG rfl rfl (fun hg => ⟨_, rfl, text2_ok H x0.text, rfl⟩) rfl rfl ?_
          skip
          refine caG rfl rfl (fun hg => ⟨_, rfl, equal_ok H x0 (textV x0.text) hx0o, rfl⟩) rfl rfl ?_
          refine fM rfl ?_
          have hK : decide (x0 = textV x0.text) = true → x0.kind = 3 := by
            intro h; have h := of_decide_eq_true h; rw [h]; rfl
          generalize decide (x0 = textV x0.text) = dT at hhd hK ⊢
          refine Run.cond rfl rfl (fun h7 => ?_) (fun h7 => ?_)
          · have : hdOk v = false := by
              rw [hhd]
              cases dT with
              | false => simp
              | true =>
                have hK := hK rfl
                simp [hK] at h7
                simp [tS]
                intro q0 q1 q2 q3
                have q4 := List.length_pos_iff.2 hks
                simp [q0, q1, q2, q3, his, hks] at h7
                exact h7 (of_decide_eq_true q1)
            refine fR rfl ?_
            refine Run.fin rfl (EndOk.go ?_); exact .t (by simp [hE6, this])
          · have : hdOk v = true := by
              rw [hhd]
              simp at h7
              simp [tS, h7]
              omega
            have hlen : v.keys.length = v.items.length := by
              rw [hhd] at this; simp only [Bool.and_eq_true] at this; exact of_decide_eq_true this.1.1.1.1
            have hkp := List.length_pos_iff.2 hks
            rw [this, Bool.true_and] at hE6
            refine fR rfl ?_
            refine rList l (fun i (n : Nat) => { env := [(0, .t (.lst (l.map Pick.enc))), (3, .ptr 0 0), (6, .t (.int .i64 n)), (7, .t (.int .i64 i))], s := ⟨[(0, .cells [.t (.int .i64 v.kind), .t (.int .i64 v.int), .t (.str v.text), .t (.lst (v.items.map Val.enc)), .t (.lst (v.keys.map sE))])], 1⟩ }) (fun r i n => n ≤ v.keys.length ∧ E = exPicks (exF k) v n r) 1 1 rfl ⟨hkp, hE6⟩ rfl rfl rfl ?_ ?_
            · rintro n ⟨hn, hh⟩
              refine fR rfl ?_
              refine lM rfl rfl rfl ?_
              refine fM rfl ?_
              refine Run.condF rfl rfl (by simp) ?_
              refine fR rfl ?_
              refine lM rfl rfl rfl ?_
              refine fM rfl ?_
              refine Run.fin rfl (EndOk.go ?_); exact .t (by rw [hh]; simp only [exPicks]; congr 1; rw [Bool.eq_iff_iff]; simp; omega)
            · rintro i p r n hp hi hd ⟨hn, hinv⟩ ih
              have hpo := hO p (List.mem_of_getElem? hp)
              refine fR rfl ?_
              refine lM rfl rfl rfl ?_
              refine fM rfl ?_
              refine Run.condT rfl rfl (by simp; omega) ?_
              refine fR rfl ?_
              refine Mid.elemMapC (Pick.enc_eq p) rfl rfl rfl hp rfl rfl ?_
              refine fM rfl ?_
              refine Mid.elemMapC (Val.enc_eq x0) rfl rfl rfl hx0 rfl rfl ?_
              refine fM rfl ?_
              refine Run.cond rfl rfl (fun h8 => ?_) (fun h8 => ?_)
              · have h8' : ¬ p.on = tn v := by rw [htn]; simpa using h8
                have hinv' : E = exPicks (exF k) v n r := by rw [hinv]; simp only [exPicks]; rw [if_neg h8']
                refine fR rfl ?_
                refine aL rfl rfl rfl rfl rfl ?_
                refine fM rfl ?_
                exact rWeak 1 rfl (ih n ⟨hn, hinv'⟩) rfl rfl rfl
              · have h8' : p.on = tn v := by rw [htn]; simpa using h8
                refine fR rfl ?_
                refine lM rfl rfl rfl ?_
                refine fM rfl ?_
                by_cases hnk : n < v.keys.length
                · obtain ⟨key, hkey⟩ : ∃ key, v.keys[n]? = some key := ⟨v.keys[n]'hnk, by simp⟩
                  obtain ⟨x, hx⟩ : ∃ x, v.items[n]? = some x := ⟨v.items[n]'(by omega), by simp⟩
                  have hinv' : E = (decide (key = p.key) && exF k p.picks x && !(decide (key ∈ v.keys.take n)) && exPicks (exF k) v (n + 1) r) := by
                    rw [hinv]; simp only [exPicks]; rw [if_pos h8', hkey, hx]
                  have hc := hrec x (List.mem_of_getElem? hx) p.picks (by have := hpo.pl; omega) hpo.p
                  unfold ExC at hc
                  refine elG rfl rfl rfl rfl hkey rfl rfl ?_
                  refine fM rfl ?_
                  refine Mid.elemMapCG (Pick.enc_eq p) rfl rfl rfl rfl hp rfl (by (repeat' (first | exact trivial | exact Bool.not_or_self _ | exact grd1 _ | exact grd2 _ | exact grd3 _ _ | exact grd4 _ _ | refine And.intro ?_ ?_ | exact rfl | (simp; done) | (simp <;> omega))); done) (by (repeat' (first | exact trivial | exact Bool.not_or_self _ | exact grd1 _ | exact grd2 _ | exact grd3 _ _ | exact grd4 _ _ | refine And.intro ?_ ?_ | exact rfl | (simp; done) | (simp <;> omega))); done) rfl ?_
                  refine fM rfl ?_
                  refine Mid.elemMapCG (Pick.enc_eq p) rfl rfl rfl rfl hp rfl (by (repeat' (first | exact trivial | exact Bool.not_or_self _ | exact grd1 _ | exact grd2 _ | exact grd3 _ _ | exact grd4 _ _ | refine And.intro ?_ ?_ | exact rfl | (simp; done) | (simp <;> omega))); done) (by (repeat' (first | exact trivial | exact Bool.not_or_self _ | exact grd1 _ | exact grd2 _ | exact grd3 _ _ | exact grd4 _ _ | refine And.intro ?_ ?_ | exact rfl | (simp; done) | (simp <;> omega))); done) rfl ?_
                  refine fM rfl ?_
                  refine Mid.elemMapCG (Val.enc_eq x) rfl rfl rfl rfl hx rfl (by (repeat' (first | exact trivial | exact Bool.not_or_self _ | exact grd1 _ | exact grd2 _ | exact grd3 _ _ | exact grd4 _ _ | refine And.intro ?_ ?_ | exact rfl | (simp; done) | (simp <;> omega))); done) (by (repeat' (first | exact trivial | exact Bool.not_or_self _ | exact grd1 _ | exact grd2 _ | exact grd3 _ _ | exact grd4 _ _ | refine And.intro ?_ ?_ | exact rfl | (simp; done) | (simp <;> omega))); done) rfl ?_
                  refine fM rfl ?_
                  refine caG rfl rfl (fun hg => ⟨_, rfl, hc, rfl⟩) rfl rfl ?_
                  refine fM rfl ?_
                  refine Run.cond rfl rfl (fun h9 => ?_) (fun h9 => ?_)
                  · have : (decide (key = p.key) && exF k p.picks x) = false := by
                      have : ¬ ((v.keys.length : Nat) : Int) ≤ n := by omega
                      simp [this] at h9
                      revert h9
                      cases exF k p.picks x <;> simp
                    refine fR rfl ?_
                    refine Run.fin rfl (EndOk.go ?_); exact .t (by rw [hinv', this]; simp)
                  · have : (decide (key = p.key) && exF k p.picks x) = true := by
                      simp at h9
                      simp [h9]
                    rw [this, Bool.true_and] at hinv'
                    refine fR rfl ?_
                    refine rList (v.keys.take n) (fun j (_ : Unit) => { env := [(0, .t (.lst (l.map Pick.enc))), (3, .ptr 0 0), (6, .t (.int .i64 n)), (7, .t (.int .i64 i)), (8, .t (.int .i64 j))], s := ⟨[(0, .cells [.t (.int .i64 v.kind), .t (.int .i64 v.int), .t (.str v.text), .t (.lst (v.items.map Val.enc)), .t (.lst (v.keys.map sE))])], 1⟩ }) (fun r' j _ => E = (!(decide (key ∈ r')) && exPicks (exF k) v (n + 1) r)) 1 () rfl hinv' rfl rfl rfl ?_ ?_
                    · intro _ hh
                      refine fR rfl ?_
                      refine Run.condF rfl rfl (by simp; omega) ?_
                      refine fR rfl ?_
                      refine aL rfl rfl rfl rfl rfl ?_
                      refine fM rfl ?_
                      refine aL rfl rfl rfl rfl rfl ?_
                      refine fM rfl ?_
                      exact rWeak 1 rfl (ih (n + 1) ⟨by omega, by simpa using hh⟩) rfl rfl rfl
                    · intro j y r' _ hy hj hjd hh ihj
                      have hjn : j < n := by rw [List.length_take] at hj; omega
                      have hy' : v.keys[j]? = some y := by rw [← hy, List.getElem?_take, if_pos hjn]
                      refine fR rfl ?_
                      refine Run.condT rfl rfl (by simp; omega) ?_
                      refine fR rfl ?_
                      refine Mid.elemMap rfl rfl rfl hy' rfl rfl ?_
                      refine fM rfl ?_
                      refine Mid.elemMap rfl rfl rfl hkey rfl rfl ?_
                      refine fM rfl ?_
                      refine Run.cond rfl rfl (fun h10 => ?_) (fun h10 => ?_)
                      · have : key = y := by have : y = key := by simpa using h10
                                             exact this.symm
                        refine fR rfl ?_
                        refine Run.fin rfl (EndOk.go ?_); exact .t (by rw [hh]; simp [this])
                      · have : ¬ key = y := by have : ¬ y = key := by simpa using h10
                                               exact fun e => this e.symm
                        refine fR rfl ?_
                        refine aL rfl rfl rfl rfl rfl ?_
                        refine fM rfl ?_
                        exact rWeak 1 rfl (ihj () (by rw [hh]; simp [this])) rfl rfl rfl
                · have hEf : E = false := by
                    rw [hinv]; simp only [exPicks]; rw [if_pos h8', List.getElem?_eq_none (by omega)]
                  subst hEf
                  have hn' : n = v.keys.length := by omega
                  generalize hb : (decide ((n : Int) ≥ (v.keys.length : Nat))) = b
                  obtain rfl : b = true := by rw [← hb]; simp; omega
                  refine elemOffG rfl rfl rfl rfl (by omega) rfl rfl rfl ?_
                  refine Mid.grdF rfl rfl rfl rfl rfl ?_
                  refine fM rfl ?_
                  refine Mid.elemMapCG (Pick.enc_eq p) rfl rfl rfl rfl hp rfl (by (repeat' (first | exact trivial | exact Bool.not_or_self _ | exact grd1 _ | exact grd2 _ | exact grd3 _ _ | exact grd4 _ _ | refine And.intro ?_ ?_ | exact rfl | (simp; done) | (simp <;> omega))); done) (by (repeat' (first | exact trivial | exact Bool.not_or_self _ | exact grd1 _ | exact grd2 _ | exact grd3 _ _ | exact grd4 _ _ | refine And.intro ?_ ?_ | exact rfl | (simp; done) | (simp <;> omega))); done) rfl ?_
                  refine fM rfl ?_
                  refine Mid.grdF rfl rfl rfl rfl rfl ?_
                  refine fM rfl ?_
                  refine Mid.elemMapCG (Pick.enc_eq p) rfl rfl rfl rfl hp rfl (by (repeat' (first | exact trivial | exact Bool.not_or_self _ | exact grd1 _ | exact grd2 _ | exact grd3 _ _ | exact grd4 _ _ | refine And.intro ?_ ?_ | exact rfl | (simp; done) | (simp <;> omega))); done) (by (repeat' (first | exact trivial | exact Bool.not_or_self _ | exact grd1 _ | exact grd2 _ | exact grd3 _ _ | exact grd4 _ _ | refine And.intro ?_ ?_ | exact rfl | (simp; done) | (simp <;> omega))); done) rfl ?_
                  refine fM rfl ?_
                  skip
                  refine elemOffG rfl rfl rfl rfl (by omega) rfl rfl rfl ?_
                  refine Mid.grdF rfl rfl rfl rfl rfl ?_
                  refine Mid.grdF rfl rfl rfl rfl rfl ?_
                  refine Mid.grdF rfl rfl rfl rfl rfl ?_
                  refine fM rfl ?_
                  refine Run.condT rfl rfl rfl ?_
                  refine fR rfl ?_
                  refine Run.fin rfl (EndOk.go ?_); exact .t rfl
  · intro i x r _ h1' hi hd hinv ih
    obtain ⟨h1, hi', h5⟩ := items5_at h1'
    have hc := hrec x (List.mem_of_getElem? h1) l hl hO
    unfold ExC at hc
    have hinv' := hinv h5
    refine fR rfl ?_
    refine lM rfl rfl rfl ?_
    refine fM rfl ?_
    refine Run.condT rfl rfl (by simp [h5]; omega) ?_
    refine fR rfl ?_
    refine Mid.elemMapC (Val.enc_eq x) rfl rfl rfl h1 rfl rfl ?_
    refine fM rfl ?_
    refine Mid.call (hc) rfl rfl rfl rfl ?_
    refine fM rfl ?_
    refine Run.cond rfl rfl (fun hx => ?_) (fun hx => ?_)
    · have hx' : exF k l x = false := by simpa using hx
      refine fR rfl ?_
      refine Run.fin rfl (EndOk.go ?_); exact .t (by simp [hinv', hx'])
    · have hx' : exF k l x = true := by simpa using hx
      refine fR rfl ?_
      refine aL rfl rfl rfl rfl rfl ?_
      refine fM rfl ?_
      exact rWeak 1 rfl (ih () (by intro _; simp [hinv', hx'])) rfl rfl rfl
end Go.GB.C43


/-
  A43R: contracts of chapter 43's functions: large.
-/
namespace Go.GB.C43
open Go.GB
set_option linter.unusedSimpArgs false
set_option linter.unusedVariables false
set_option maxRecDepth 100000
set_option maxHeartbeats 2000000
variable {P : Program}

def largeP (ds : List Def) (l : List Pick) (u : User) : Bool := decide (((l.length : Nat) : Int) > 200) || decide (wDoc 600 ds > 600) || decide (((u.scopes.length : Nat) : Int) > 50) || decide (deepF 31 l > 200)
theorem large_ok (H : Pr P) (ds : List Def) (hD : DocOk ds) (l : List Pick) (hl : l.length ≤ 140737488355328) (hO : ∀ p, p ∈ l → p.Ok) (u : User) :
    FnOk P 13 [docV ds, .t (.lst (l.map Pick.enc)), u.v] ⟨[], 0⟩ { v := .t (.bool (largeP ds l u)) } := by
  refine FnOk.run H.i13 H.mixed rfl rfl ?_
  refine fR rfl ?_
  refine lM rfl rfl rfl ?_
  refine fM rfl ?_
  refine caG rfl rfl (fun hg => ⟨_, rfl, weightDoc_ok H 600 ds hD, rfl⟩) rfl rfl ?_
  refine fM rfl ?_
  refine lMG rfl rfl rfl rfl ?_
  refine fM rfl ?_
  refine caG rfl rfl (fun hg => ⟨_, rfl, deep_ok H 31 l 0 hl hO (by omega) (by omega), rfl⟩) rfl rfl ?_
  refine fM rfl ?_
  refine Run.fin rfl (EndOk.go ?_); exact .t rfl
theorem large_nil (H : Pr P) (ds : List Def) (hD : DocOk ds) (u : User) :
    FnOk P 13 [docV ds, .nils, u.v] ⟨[], 0⟩ { v := .t (.bool (largeP ds [] u)) } := by
  refine FnOk.run H.i13 H.mixed rfl rfl ?_
  refine fR rfl ?_
  refine p0 rfl ?_
  refine fM rfl ?_
  refine caG rfl rfl (fun hg => ⟨_, rfl, weightDoc_ok H 600 ds hD, rfl⟩) rfl rfl ?_
  refine fM rfl ?_
  refine lMG rfl rfl rfl rfl ?_
  refine fM rfl ?_
  refine caG rfl rfl (fun hg => ⟨_, rfl, deep_ok H 31 [] 0 (by simp) (by simp) (by omega) (by omega), rfl⟩) rfl rfl ?_
  refine fM rfl ?_
  refine Run.fin rfl (EndOk.go ?_); exact .t rfl

/- what the guard gives -/
theorem tot_ge {α : Type} {n : Int} {f : Int → α → Int} (hf : ∀ t x, t ≤ n → t ≤ f t x) : ∀ (l : List α) (t : Int), t ≤ tot n f t l
  | [], t => by simp [tot]
  | x :: r, t => by
    simp only [tot]
    split
    · rename_i h
      have := tot_ge hf r (f t x)
      have := hf t x h
      omega
    · omega
theorem deepF_le : ∀ (k : Nat) (l : List Pick), k ≤ 31 → l.length ≤ 140737488355328 → (∀ p, p ∈ l → p.Ok) → 0 ≤ deepF k l ∧ deepF k l ≤ 140737488355328 + 201 * ((k : Nat) + 1) ∧ (deepF k l ≤ 200 → deepF k l = (Pick.cnts l : Nat))
  | 0, l, _, _, _ => by simp [deepF]
  | k + 1, l, hk, hl, hO => by
    have key : ∀ (r : List Pick) (t : Int), (∀ p, p ∈ r → p.Ok) → 0 ≤ t → t ≤ 140737488355328 + 201 * ((k : Nat) + 2) → (r : List Pick).length ≤ t →
        0 ≤ tot 200 (fDeep k) t r ∧ tot 200 (fDeep k) t r ≤ 140737488355328 + 201 * ((k : Nat) + 2) ∧ (tot 200 (fDeep k) t r ≤ 200 → tot 200 (fDeep k) t r = t + (Pick.cnts r : Nat) - (r.length : Nat)) := by
      intro r
      induction r with
      | nil => intro t _ h0 h1 _; simp [tot, Pick.cnts]; omega
      | cons p r ih =>
        intro t hr h0 h1 h2
        simp only [tot]
        split
        · rename_i ht
          have hp := hr p (List.mem_cons_self ..)
          have hd := deepF_le k p.picks (by omega) (by have := hp.pl; omega) hp.p
          have hce := Pick.cnt_eq p
          have e : fDeep k t p = t + deepF k p.picks := by unfold fDeep; rw [wrap64 (by omega) (by omega)]
          have hlen : ((p :: r).length : Int) = (r.length : Nat) + 1 := by simp
          obtain ⟨a1, a2, a3⟩ := ih (fDeep k t p) (fun q hq => hr q (List.mem_cons_of_mem _ hq)) (by omega) (by omega) (by omega)
          refine ⟨a1, a2, fun h => ?_⟩
          have := a3 h
          have hge : deepF k p.picks ≤ 200 := by
            by_cases hq : fDeep k t p ≤ 200
            · omega
            · have : tot 200 (fDeep k) (fDeep k t p) r = fDeep k t p := by cases r <;> simp [tot, hq]
              omega
          have := hd.2.2 hge
          simp only [Pick.cnts]
          omega
        · rename_i ht
          exact ⟨h0, h1, fun h => absurd h ht⟩
    have := key l (l.length : Nat) hO (by omega) (by omega) (by omega)
    rw [deepF_succ]
    refine ⟨this.1, by have := this.2.1; simp; omega, fun h => ?_⟩
    have := this.2.2 h; omega
theorem large_cnts {ds : List Def} {l : List Pick} {u : User} (hl : l.length ≤ 140737488355328) (hO : ∀ p, p ∈ l → p.Ok) (h : largeP ds l u = false) : Pick.cnts l ≤ 200 := by
  unfold largeP at h
  simp only [Bool.or_eq_false_iff, decide_eq_false_iff_not] at h
  have := (deepF_le 31 l (by omega) hl hO).2.2 (by omega)
  omega
end Go.GB.C43

/-
  A40K: contracts of chapter 40's functions: size, deep, large, single, without.
-/
namespace Go.GB.C43
open Go.GB
set_option linter.unusedSimpArgs false
set_option linter.unusedVariables false
set_option maxRecDepth 100000
set_option maxHeartbeats 2000000
variable {P : Program}

mutual
def szP : Pick → Int
  | .mk k o n a t lb i ps => szs (ps.length : Nat) ps
def szs : Int → List Pick → Int
  | s, [] => s
  | s, p :: r => if s ≤ 200 then szs (IntKind.i64.wrap (IntKind.i64.wrap (IntKind.i64.wrap (s + (p.ty.wraps.length : Nat)) + (p.args.length : Nat)) + szP p)) r else s
end
def fSz (t : Int) (p : Pick) : Int := IntKind.i64.wrap (IntKind.i64.wrap (IntKind.i64.wrap (t + (p.ty.wraps.length : Nat)) + (p.args.length : Nat)) + szP p)
theorem szP_eq (p : Pick) : szP p = szs (p.picks.length : Nat) p.picks := by cases p; simp only [szP, Pick.picks]
theorem szs_tot : ∀ (l : List Pick) (t : Int), szs t l = tot 200 fSz t l
  | [], t => by simp [szs, tot]
  | p :: r, t => by simp only [szs, tot]; rw [szs_tot r]; rfl
def SizC (P : Program) (l : List Pick) : Prop := FnOk P 62 [.t (.lst (l.map Pick.enc))] ⟨[], 0⟩ { v := .t (.int .i64 (szs (l.length : Nat) l)) }
theorem size_step (H : Pr40 P) (l : List Pick) (hl : l.length * 160 ≤ 140737488355328) (hrec : ∀ p, p ∈ l → SizC P p.picks) : SizC P l := by
  have hw := szs_tot l (l.length : Nat)
  unfold SizC
  refine FnOk.run H.i62 H.mixed rfl rfl ?_
  refine fR rfl ?_
  refine lM rfl rfl rfl ?_
  refine fM rfl ?_
  refine rList (pre 200 fSz (l.length : Nat) l) (fun i (t : Int) => { env := [(0, .t (.lst (l.map Pick.enc))), (3, .t (.int .i64 t)), (4, .t (.int .i64 i))], s := ⟨[], 0⟩ }) (fun r i t => PreInv 200 fSz l (tot 200 fSz (l.length : Nat) l) r i t) 0 (l.length : Nat) rfl (pre_init ..) rfl rfl rfl ?_ ?_
  · intro t ht
    obtain ⟨h1, h2⟩ := pre_nil ht
    refine fR rfl ?_
    refine lM rfl rfl rfl ?_
    refine fM rfl ?_
    refine Run.condF rfl rfl (by simp at h1 ⊢; omega) ?_
    refine fR rfl ?_
    refine Run.fin rfl (EndOk.go ?_); exact .t (by rw [hw, h2])
  · intro i x r t _ hi hd hinv ih
    obtain ⟨h1, hi', hle, hnx⟩ := pre_cons hinv
    have hc := hrec x (List.mem_of_getElem? h1)
    unfold SizC at hc
    rw [← szP_eq] at hc
    refine fR rfl ?_
    refine lM rfl rfl rfl ?_
    refine fM rfl ?_
    refine Run.condT rfl rfl (by simp; omega) ?_
    refine fR rfl ?_
    refine Mid.elemMapC (Pick.enc_eq x) rfl rfl rfl h1 rfl rfl ?_
    refine fM rfl ?_
    refine lM rfl rfl rfl ?_
    refine p0 rfl ?_
    refine fM rfl ?_
    refine Mid.elemMapC (Pick.enc_eq x) rfl rfl rfl h1 rfl rfl ?_
    refine fM rfl ?_
    refine lM rfl rfl rfl ?_
    refine p0 rfl ?_
    refine fM rfl ?_
    refine Mid.elemMapC (Pick.enc_eq x) rfl rfl rfl h1 rfl rfl ?_
    refine fM rfl ?_
    refine Mid.call (hc) rfl rfl rfl rfl ?_
    refine p0 rfl ?_
    refine fM rfl ?_
    refine aL rfl rfl rfl rfl rfl ?_
    refine fM rfl ?_
    exact rWeak 0 rfl (ih (fSz t x) hnx) rfl rfl rfl
theorem size_ok (H : Pr40 P) : ∀ (k : Nat) (l : List Pick), SizeOf.sizeOf l ≤ k → l.length * 160 ≤ 140737488355328 → (∀ p, p ∈ l → p.Ok) → SizC P l
  | 0, l, h, _, _ => by cases l <;> simp at h
  | k + 1, l, h, hl, hO => size_step H l hl fun p hp => size_ok H k p.picks (by
      have h1 := List.sizeOf_lt_of_mem hp
      have h2 : SizeOf.sizeOf p.picks < SizeOf.sizeOf p := by cases p; simp [Pick.picks]; omega
      omega) (hO p hp).pl (hO p hp).p

mutual
def dpP : Pick → Int
  | .mk k o n a t lb i ps => dps 0 ps
def dps : Int → List Pick → Int
  | s, [] => s
  | s, p :: r => dps (max s (IntKind.i64.wrap (1 + dpP p))) r
end
theorem dpP_eq (p : Pick) : dpP p = dps 0 p.picks := by cases p; simp only [dpP, Pick.picks]
def DepC (P : Program) (l : List Pick) : Prop := FnOk P 63 [.t (.lst (l.map Pick.enc))] ⟨[], 0⟩ { v := .t (.int .i64 (dps 0 l)) }
theorem deep40_step (H : Pr40 P) (l : List Pick) (hl : l.length * 160 ≤ 140737488355328) (hrec : ∀ p, p ∈ l → DepC P p.picks) : DepC P l := by
  unfold DepC
  refine FnOk.run H.i63 H.mixed rfl rfl ?_
  refine fR rfl ?_
  refine rList l (fun i (t : Int) => { env := [(0, .t (.lst (l.map Pick.enc))), (3, .t (.int .i64 t)), (4, .t (.int .i64 i))], s := ⟨[], 0⟩ }) (fun r i t => dps 0 l = dps t r) 0 0 rfl rfl rfl rfl rfl ?_ ?_
  · intro t ht
    refine fR rfl ?_
    refine lM rfl rfl rfl ?_
    refine fM rfl ?_
    refine Run.condF rfl rfl (by simp) ?_
    refine fR rfl ?_
    refine Run.fin rfl (EndOk.go ?_); exact .t (by rw [ht]; rfl)
  · intro i x r t h1 hi hd ht ih
    have hc := hrec x (List.mem_of_getElem? h1)
    unfold DepC at hc
    rw [← dpP_eq] at hc
    refine fR rfl ?_
    refine lM rfl rfl rfl ?_
    refine fM rfl ?_
    refine Run.condT rfl rfl (by simp; omega) ?_
    refine fR rfl ?_
    refine Mid.elemMapC (Pick.enc_eq x) rfl rfl rfl h1 rfl rfl ?_
    refine fM rfl ?_
    refine Mid.call (hc) rfl rfl rfl rfl ?_
    refine p0 rfl ?_
    refine fM rfl ?_
    refine aL rfl rfl rfl rfl rfl ?_
    refine fM rfl ?_
    rw [max_if]
    exact rWeak 0 rfl (ih (max t (IntKind.i64.wrap (1 + dpP x))) (by rw [ht]; rfl)) rfl rfl rfl
theorem deep40_ok (H : Pr40 P) : ∀ (k : Nat) (l : List Pick), SizeOf.sizeOf l ≤ k → l.length * 160 ≤ 140737488355328 → (∀ p, p ∈ l → p.Ok) → DepC P l
  | 0, l, h, _, _ => by cases l <;> simp at h
  | k + 1, l, h, hl, hO => deep40_step H l hl fun p hp => deep40_ok H k p.picks (by
      have h1 := List.sizeOf_lt_of_mem hp
      have h2 : SizeOf.sizeOf p.picks < SizeOf.sizeOf p := by cases p; simp [Pick.picks]; omega
      omega) (hO p hp).pl (hO p hp).p

def large40 (ds : List Def) (l : List Pick) : Bool := decide (szs (l.length : Nat) l > 200) || decide (wDoc 600 ds > 600) || decide (dps 0 l > 30)
theorem large40_ok (H : Pr40 P) (ds : List Def) (hD : DocOk ds) (l : List Pick) (hl : l.length * 160 ≤ 140737488355328) (hO : ∀ p, p ∈ l → p.Ok) :
    FnOk P 32 [docV ds, .t (.lst (l.map Pick.enc))] ⟨[], 0⟩ { v := .t (.bool (large40 ds l)) } := by
  have h1 := size_ok H _ l (Nat.le_refl _) hl hO
  have h2 := deep40_ok H _ l (Nat.le_refl _) hl hO
  unfold SizC at h1
  unfold DepC at h2
  refine FnOk.run H.i32 H.mixed rfl rfl ?_
  refine fR rfl ?_
  refine Mid.call (h1) rfl rfl rfl rfl ?_
  refine fM rfl ?_
  refine caG rfl rfl (fun hg => ⟨_, rfl, weightDoc_ok H.toPr 600 ds hD, rfl⟩) rfl rfl ?_
  refine fM rfl ?_
  refine caG rfl rfl (fun hg => ⟨_, rfl, h2, rfl⟩) rfl rfl ?_
  refine fM rfl ?_
  refine Run.fin rfl (EndOk.go ?_); exact .t rfl

mutual
def sgP : Pick → Bool
  | .mk k o n a t lb i ps => sgs [] ps
def sgs : List Pick → List Pick → Bool
  | _, [] => true
  | q, p :: r => !(q.any fun y => y.on == p.on && y.key == p.key) && sgP p && sgs (q ++ [p]) r
end
theorem sgP_eq (p : Pick) : sgP p = sgs [] p.picks := by cases p; simp only [sgP, Pick.picks]
def SinC (P : Program) (l : List Pick) : Prop := FnOk P 44 [.t (.lst (l.map Pick.enc))] ⟨[], 0⟩ { v := .t (.bool (sgs [] l)) }
theorem single_step (H : Pr40 P) (l : List Pick) (hl : l.length * 160 ≤ 140737488355328) (hrec : ∀ p, p ∈ l → SinC P p.picks) : SinC P l := by
  unfold SinC
  refine FnOk.run H.i44 H.mixed rfl rfl ?_
  refine fR rfl ?_
  refine rList l (fun i (_ : Unit) => { env := [(0, .t (.lst (l.map Pick.enc))), (3, .t (.int .i64 i))], s := ⟨[], 0⟩ }) (fun r i _ => sgs [] l = sgs (l.take i) r) 0 () rfl rfl rfl rfl rfl ?_ ?_
  · intro _ ht
    refine fR rfl ?_
    refine lM rfl rfl rfl ?_
    refine fM rfl ?_
    refine Run.condF rfl rfl (by simp) ?_
    refine fR rfl ?_
    refine Run.fin rfl (EndOk.go ?_); exact .t (by rw [ht]; rfl)
  · intro i x r _ h1 hi hd ht ih
    have hc := hrec x (List.mem_of_getElem? h1)
    unfold SinC at hc
    rw [← sgP_eq] at hc
    have hlt : (l.take i).length = i := by simp; omega
    have htk : l.take i ++ [x] = l.take (i + 1) := by rw [List.take_add_one, h1]; rfl
    refine fR rfl ?_
    refine lM rfl rfl rfl ?_
    refine fM rfl ?_
    refine Run.condT rfl rfl (by simp; omega) ?_
    refine fR rfl ?_
    refine rList (l.take i) (fun j (_ : Unit) => { env := [(0, .t (.lst (l.map Pick.enc))), (3, .t (.int .i64 i)), (4, .t (.int .i64 j))], s := ⟨[], 0⟩ }) (fun q j _ => ((l.take i).any fun y => y.on == x.on && y.key == x.key) = (q.any fun y => y.on == x.on && y.key == x.key)) 0 () rfl rfl rfl rfl rfl ?_ ?_
    · intro _ hq
      have hq' : ((l.take i).any fun y => y.on == x.on && y.key == x.key) = false := hq
      refine fR rfl ?_
      refine Run.condF rfl rfl (by rw [hlt]; simp) ?_
      refine fR rfl ?_
      refine Mid.elemMapC (Pick.enc_eq x) rfl rfl rfl h1 rfl rfl ?_
      refine fM rfl ?_
      refine Mid.call (hc) rfl rfl rfl rfl ?_
      refine fM rfl ?_
      refine Run.cond rfl rfl (fun hs => ?_) (fun hs => ?_)
      · have hs' : sgP x = false := by simpa using hs
        refine fR rfl ?_
        refine Run.fin rfl (EndOk.go ?_); exact .t (by rw [ht]; simp only [sgs]; rw [hq', hs']; rfl)
      · have hs' : sgP x = true := by simpa using hs
        refine fR rfl ?_
        refine aL rfl rfl rfl rfl rfl ?_
        refine fM rfl ?_
        exact rWeak 0 rfl (ih () (by rw [ht]; simp only [sgs]; rw [hq', hs', htk]; rfl)) rfl rfl rfl
    · intro j y q _ h2 hj hjd hq ihq
      have h2' : l[j]? = some y := by rw [List.getElem?_take] at h2; split at h2; exact h2; cases h2
      have hj' : j < i := by omega
      refine fR rfl ?_
      refine Run.condT rfl rfl (by simp; omega) ?_
      refine fR rfl ?_
      refine Mid.elemMapC (Pick.enc_eq y) rfl rfl rfl h2' rfl rfl ?_
      refine fM rfl ?_
      refine Mid.elemMapC (Pick.enc_eq x) rfl rfl rfl h1 rfl rfl ?_
      refine fM rfl ?_
      refine Mid.elemMapCG (Pick.enc_eq y) rfl rfl rfl rfl h2' rfl (by (repeat' (first | exact trivial | exact Bool.not_or_self _ | exact grd1 _ | exact grd2 _ | exact grd3 _ _ | exact grd4 _ _ | refine And.intro ?_ ?_ | exact rfl | (simp; done) | (simp <;> omega))); done) (by (repeat' (first | exact trivial | exact Bool.not_or_self _ | exact grd1 _ | exact grd2 _ | exact grd3 _ _ | exact grd4 _ _ | refine And.intro ?_ ?_ | exact rfl | (simp; done) | (simp <;> omega))); done) rfl ?_
      refine fM rfl ?_
      refine Mid.elemMapCG (Pick.enc_eq x) rfl rfl rfl rfl h1 rfl (by (repeat' (first | exact trivial | exact Bool.not_or_self _ | exact grd1 _ | exact grd2 _ | exact grd3 _ _ | exact grd4 _ _ | refine And.intro ?_ ?_ | exact rfl | (simp; done) | (simp <;> omega))); done) (by (repeat' (first | exact trivial | exact Bool.not_or_self _ | exact grd1 _ | exact grd2 _ | exact grd3 _ _ | exact grd4 _ _ | refine And.intro ?_ ?_ | exact rfl | (simp; done) | (simp <;> omega))); done) rfl ?_
      refine fM rfl ?_
      refine Run.cond rfl rfl (fun he => ?_) (fun he => ?_)
      · have hq' : ((l.take i).any fun y => y.on == x.on && y.key == x.key) = true := by rw [hq, List.any_cons]; simp only [Bool.or_eq_true]; exact .inl he
        refine fR rfl ?_
        refine Run.fin rfl (EndOk.go ?_); exact .t (by rw [ht]; simp only [sgs]; rw [hq']; rfl)
      · refine fR rfl ?_
        refine aL rfl rfl rfl rfl rfl ?_
        refine fM rfl ?_
        exact rWeak 0 rfl (ihq () (by rw [hq, List.any_cons]; simp only [show (y.on == x.on && y.key == x.key) = false from he, Bool.false_or])) rfl rfl rfl
theorem single_ok (H : Pr40 P) : ∀ (k : Nat) (l : List Pick), SizeOf.sizeOf l ≤ k → l.length * 160 ≤ 140737488355328 → (∀ p, p ∈ l → p.Ok) → SinC P l
  | 0, l, h, _, _ => by cases l <;> simp at h
  | k + 1, l, h, hl, hO => single_step H l hl fun p hp => single_ok H k p.picks (by
      have h1 := List.sizeOf_lt_of_mem hp
      have h2 : SizeOf.sizeOf p.picks < SizeOf.sizeOf p := by cases p; simp [Pick.picks]; omega
      omega) (hO p hp).pl (hO p hp).p
end Go.GB.C43

/-
  A40L: contracts of chapter 40's functions: without.
-/
namespace Go.GB.C43
open Go.GB
set_option linter.unusedSimpArgs false
set_option linter.unusedVariables false
set_option maxRecDepth 100000
set_option maxHeartbeats 2000000
variable {P : Program}

mutual
def woP : Pick → Int → Pick × Int
  | .mk k o n a t lb i ps, j => (.mk k o n a t lb i (wos ps j).1, (wos ps j).2)
def wos : List Pick → Int → List Pick × Int
  | [], j => ([], j)
  | p :: r, j =>
    if j = 0 then wos r (-1)
    else if j > 0 then ((woP p (j - 1)).1 :: (wos r (woP p (j - 1)).2).1, (wos r (woP p (j - 1)).2).2)
    else (p :: (wos r j).1, (wos r j).2)
end
theorem woP_eq (p : Pick) (j : Int) : woP p j = (p.withPicks (wos p.picks j).1, (wos p.picks j).2) := by
  cases p; simp only [woP, Pick.withPicks, Pick.key, Pick.on, Pick.name, Pick.args, Pick.ty, Pick.label, Pick.initial, Pick.picks]
theorem withPicks_self (p : Pick) : p.withPicks p.picks = p := by cases p; rfl
theorem wos_len : ∀ (l : List Pick) (j : Int), (wos l j).1.length ≤ l.length
  | [], j => by simp [wos]
  | p :: r, j => by
    simp only [wos]
    split
    · have := wos_len r (-1); simp; omega
    · split
      · have := wos_len r (woP p (j - 1)).2; simp; omega
      · have := wos_len r j; simp; omega
theorem wos_rng : ∀ (k : Nat) (l : List Pick) (j : Int), SizeOf.sizeOf l ≤ k → -9223372036854775808 ≤ j ∧ j ≤ 9223372036854775807 → -9223372036854775808 ≤ (wos l j).2 ∧ (wos l j).2 ≤ 9223372036854775807
  | k, [], j, _, h => by simpa [wos] using h
  | 0, p :: r, j, h, _ => by simp at h
  | k + 1, p :: r, j, h, hj => by
    have hs : SizeOf.sizeOf r ≤ k ∧ SizeOf.sizeOf p.picks ≤ k := by
      cases p; simp [Pick.picks] at h ⊢; omega
    simp only [wos]
    split
    · exact wos_rng k r (-1) hs.1 (by omega)
    · split
      · refine wos_rng k r _ hs.1 ?_
        rw [woP_eq]
        exact wos_rng k p.picks (j - 1) hs.2 (by omega)
      · exact wos_rng k r j hs.1 hj
def WoC (P : Program) (l : List Pick) (j : Int) : Prop := FnOk P 45 [.t (.lst (l.map Pick.enc)), .t (.int .i64 j)] ⟨[], 0⟩ { v := .tup [.t (.lst ((wos l j).1.map Pick.enc)), .t (.int .i64 (wos l j).2)] }
theorem without_step (H : Pr40 P) (l : List Pick) (hl : l.length * 160 ≤ 140737488355328) (j : Int) (hj : -9223372036854775808 ≤ j ∧ j ≤ 9223372036854775807) (hrec : ∀ p, p ∈ l → ∀ i : Int, 0 ≤ i ∧ i ≤ 9223372036854775807 → WoC P p.picks i) : WoC P l j := by
  unfold WoC
  refine FnOk.run H.i45 H.mixed rfl rfl ?_
  refine fR rfl ?_
  refine rList l (fun i (B : List Pick × Int) => { env := [(0, .t (.lst (l.map Pick.enc))), (1, .t (.int .i64 B.2)), (6, .own 0 9 (B.1.map Pick.enc)), (7, .t (.int .i64 i))], s := ⟨[(0, .arr B.1.length)], 1⟩ }) (fun r i B => (-9223372036854775808 ≤ B.2 ∧ B.2 ≤ 9223372036854775807) ∧ B.1.length ≤ i ∧ wos l j = (B.1 ++ (wos r B.2).1, (wos r B.2).2)) 0 ([], j) rfl ⟨hj, by simp, by simp⟩ rfl rfl rfl ?_ ?_
  · rintro ⟨B, a⟩ ⟨_, _, hB⟩
    refine fR rfl ?_
    refine lM rfl rfl rfl ?_
    refine fM rfl ?_
    refine Run.condF rfl rfl (by simp) ?_
    refine fR rfl ?_
    rw [hB]
    refine Run.fin rfl (EndOk.go ?_); exact .tup2 (.own (by simp [wos])) (.t (by simp [wos]))
  · rintro i x r ⟨B, a⟩ h1 hi hd ⟨hj0, hB1, hB⟩ ih
    have hj1 : -9223372036854775808 ≤ a ∧ a ≤ 9223372036854775807 := hj0
    have hB1' : B.length ≤ i := hB1
    refine fR rfl ?_
    refine lM rfl rfl rfl ?_
    refine fM rfl ?_
    refine Run.condT rfl rfl (by simp; omega) ?_
    refine fR rfl ?_
    refine Mid.elemMapC (Pick.enc_eq x) rfl rfl rfl h1 rfl rfl ?_
    refine fM rfl ?_
    refine Run.cond rfl rfl (fun h0 => ?_) (fun h0 => ?_)
    · have h0' : a = 0 := by simpa using h0
      refine fR rfl ?_
      refine aL rfl rfl rfl rfl rfl ?_
      refine fM rfl ?_
      exact rWeak 1 rfl (ih (B, -1) ⟨by simp, by simp; omega, by rw [hB]; simp only [wos]; rw [if_pos h0']⟩) rfl rfl rfl
    · have h0' : ¬ a = 0 := by simpa using h0
      refine fR rfl ?_
      refine Run.cond rfl rfl (fun hp => ?_) (fun hp => ?_)
      · have hp' : a > 0 := by simpa using hp
        have hc := hrec x (List.mem_of_getElem? h1) (a - 1) (by omega)
        have hg := wos_rng _ x.picks (a - 1) (Nat.le_refl _) (by omega)
        have e : IntKind.i64.wrap (a - 1) = a - 1 := wrap64 (by omega) (by omega)
        have hB' : wos l j = (B ++ [x.withPicks (wos x.picks (a - 1)).1] ++ (wos r (wos x.picks (a - 1)).2).1, (wos r (wos x.picks (a - 1)).2).2) := by
          rw [hB]; simp only [wos]; rw [if_neg h0', if_pos hp', woP_eq]; simp
        unfold WoC at hc
        generalize wos x.picks (a - 1) = G at hc hg hB'
        refine fR rfl ?_
        refine s64 rfl rfl rfl ?_
        refine Mid.call (hc) rfl rfl rfl rfl ?_
        refine fM rfl ?_
        refine apM Pick.enc B [(x.withPicks G.1)] rfl (congrArg (fun c => some (T.lst [c])) (Pick.enc_eq (x.withPicks G.1)).symm) rfl rfl rfl ?_ (hl := fun x => (congrArg List.length (Pick.enc_eq x)).trans rfl)
        refine fM rfl ?_
        refine aL rfl rfl rfl rfl rfl ?_
        refine fM rfl ?_
        exact rWeak 1 rfl (ih (B ++ [x.withPicks G.1], G.2) ⟨hg, by simp; omega, by rw [hB']⟩) rfl rfl rfl
      · have hp' : ¬ a > 0 := by simpa using hp
        refine fR rfl ?_
        refine apM Pick.enc B [x] rfl (congrArg (fun c => some (T.lst [c])) (Pick.enc_eq x).symm) rfl rfl rfl ?_ (hl := fun x => (congrArg List.length (Pick.enc_eq x)).trans rfl)
        refine fM rfl ?_
        refine aL rfl rfl rfl rfl rfl ?_
        refine fM rfl ?_
        exact rWeak 1 rfl (ih (B ++ [x], a) ⟨hj1, by simp; omega, by rw [hB]; simp only [wos]; rw [if_neg h0', if_neg hp']; simp⟩) rfl rfl rfl
theorem without_ok (H : Pr40 P) : ∀ (k : Nat) (l : List Pick) (j : Int), SizeOf.sizeOf l ≤ k → l.length * 160 ≤ 140737488355328 → (∀ p, p ∈ l → p.Ok) → -9223372036854775808 ≤ j ∧ j ≤ 9223372036854775807 → WoC P l j
  | 0, l, j, h, _, _, _ => by cases l <;> simp at h
  | k + 1, l, j, h, hl, hO, hj => without_step H l hl j hj fun p hp i hi => without_ok H k p.picks i (by
      have h1 := List.sizeOf_lt_of_mem hp
      have h2 : SizeOf.sizeOf p.picks < SizeOf.sizeOf p := by cases p; simp [Pick.picks]; omega
      omega) (hO p hp).pl (hO p hp).p (by omega)
end Go.GB.C43

/-
  A40M: plain laws of chapter 40: actual costs are bounded, leaving out a pick costs no more.
-/
namespace Go.GB.C43
open Go.GB
set_option linter.unusedSimpArgs false
set_option linter.unusedVariables false

/- sums of one type -/
theorem sumS_mono (on : Str) : ∀ (l : List (Str × Int)) (s s' : Int), s' ≤ s → sumS on l s' ≤ sumS on l s
  | [], s, s', h => h
  | x :: r, s, s', h => by
    simp only [sumS]
    split
    · exact sumS_mono on r _ _ (by omega)
    · exact sumS_mono on r _ _ h
theorem sumS_none (on : Str) : ∀ (l : List (Str × Int)) (s : Int), (∀ x, x ∈ l → ¬ x.1 = on) → sumS on l s = s
  | [], s, _ => rfl
  | x :: r, s, h => by
    have hx := h x (List.mem_cons_self ..)
    simp only [sumS]
    rw [if_neg (by simpa using hx)]
    exact sumS_none on r s fun y hy => h y (List.mem_cons_of_mem _ hy)
theorem sumS_le (on : Str) (l : List (Str × Int)) : sumS on l 0 ≤ grF l := by
  by_cases h : ∃ x, x ∈ l ∧ x.1 = on
  · obtain ⟨x, hx, rfl⟩ := h
    exact (grF_spec l).2.1 x hx
  · rw [sumS_none on l 0 fun x hx e => h ⟨x, hx, e⟩]
    exact (grF_spec l).1
theorem grF_mono {l l' : List (Str × Int)} (h : ∀ on, sumS on l' 0 ≤ sumS on l 0) : grF l' ≤ grF l := by
  rcases (grF_spec l').2.2 with e | ⟨x, _, e⟩
  · rw [e]; exact (grF_spec l).1
  · rw [e]; exact Int.le_trans (h x.1) (sumS_le x.1 l)

/- leaving out a pick -/
theorem costP_with (ds : List Def) (p : Pick) (q : List Pick) : costP ds (p.withPicks q) = min (wtF ds p.on p.name + min (elF ds p * grF (costL ds q)) 1099511627776) 1099511627776 := by
  rw [costP_eq]; cases p; rfl
theorem costP_less (ds : List Def) (p : Pick) (q : List Pick) (h : grF (costL ds q) ≤ grF (costL ds p.picks)) : costP ds (p.withPicks q) ≤ costP ds p := by
  have he := (elF_rng ds p).1
  have := Int.mul_le_mul_of_nonneg_left h he
  rw [costP_with, costP_eq ds p]; omega
theorem wos_less (ds : List Def) : ∀ (k : Nat) (l : List Pick) (j : Int), SizeOf.sizeOf l ≤ k → ∀ (on : Str) (s s' : Int), 0 ≤ s' → s' ≤ s → s ≤ 1099511627776 → sumS on (costL ds (wos l j).1) s' ≤ sumS on (costL ds l) s
  | k, [], j, _, on, s, s', _, h, _ => by simpa [wos, costL, sumS] using h
  | 0, p :: r, j, h, _, _, _, _, _, _ => by simp at h
  | k + 1, p :: r, j, hk, on, s, s', h0, h, hs => by
    have hsz : SizeOf.sizeOf r ≤ k ∧ SizeOf.sizeOf p.picks ≤ k := by
      cases p; simp [Pick.picks] at hk ⊢; omega
    have hc := costP_rng ds p
    simp only [wos]
    split
    · simp only [costL, sumS]
      split
      · exact wos_less ds k r (-1) hsz.1 on _ s' h0 (by omega) (by omega)
      · exact wos_less ds k r (-1) hsz.1 on s s' h0 h hs
    · split
      · rw [woP_eq]
        have hg : grF (costL ds (wos p.picks (j - 1)).1) ≤ grF (costL ds p.picks) := grF_mono fun on => wos_less ds k p.picks (j - 1) hsz.2 on 0 0 (by omega) (by omega) (by omega)
        have hcl := costP_less ds p _ hg
        have hc2 := costP_rng ds (p.withPicks (wos p.picks (j - 1)).1)
        simp only [costL, sumS]
        rw [show (p.withPicks (wos p.picks (j - 1)).1).on = p.on from by cases p; rfl]
        split
        · exact wos_less ds k r _ hsz.1 on _ _ (by omega) (by omega) (by omega)
        · exact wos_less ds k r _ hsz.1 on s s' h0 h hs
      · simp only [costL, sumS]
        split
        · exact wos_less ds k r j hsz.1 on _ _ (by omega) (by omega) (by omega)
        · exact wos_less ds k r j hsz.1 on s s' h0 h hs
theorem parts_less (ds : List Def) (l : List Pick) (j : Int) : grF (costL ds (wos l j).1) ≤ grF (costL ds l) :=
  grF_mono fun on => wos_less ds _ l j (Nat.le_refl _) on 0 0 (by omega) (by omega) (by omega)

/- costs of picks of one type add up -/
theorem grF_one (ds : List Def) (p : Pick) : grF (costL ds [p]) = costP ds p := by
  have hc := costP_rng ds p
  simp only [costL, grF, mxS, sumS]
  simp
  split <;> omega
theorem sum_same (ds : List Def) (on : Str) : ∀ (l : List Pick) (s : Int), (∀ p, p ∈ l → p.on = on) → sumS on (costL ds l) s = sumI s (l.map (costP ds))
  | [], s, _ => rfl
  | p :: r, s, h => by
    have hp := h p (List.mem_cons_self ..)
    simp only [costL, sumS, List.map_cons, sumI]
    rw [if_pos (by simpa using hp)]
    exact sum_same ds on r _ fun q hq => h q (List.mem_cons_of_mem _ hq)
theorem grF_same (ds : List Def) (l : List Pick) (on : Str) (h : ∀ p, p ∈ l → p.on = on) : grF (costL ds l) = sumI 0 (l.map (costP ds)) := by
  rw [← sum_same ds on l 0 h]
  have h1 := sumS_le on (costL ds l)
  rcases (grF_spec (costL ds l)).2.2 with e | ⟨x, hx, e⟩
  · have := (sumS_rng on (costL ds l) 0 (costL_Cs ds l) (by omega)).1; omega
  · rw [costL_map] at hx
    obtain ⟨p, hp, rfl⟩ := List.mem_map.1 hx
    simp only [h p hp] at e; exact e

/- actual costs -/
theorem min_pow {L : Int} (hL : 0 ≤ L) : ∀ (n : Nat) (a : Int), 0 ≤ a → pwF L n (min a 1099511627776) = min (a * L ^ n) 1099511627776
  | 0, a, _ => by simp [pwF]
  | n + 1, a, ha => by
    simp only [pwF]
    have e : min (min a 1099511627776 * L) 1099511627776 = min (a * L) 1099511627776 := by
      by_cases h : a ≤ 1099511627776
      · rw [Int.min_eq_left h]
      · rw [show min a 1099511627776 = 1099511627776 from by omega]
        by_cases h0 : L = 0
        · subst h0; simp
        · have h1 : 1 ≤ L := by omega
          have := Int.mul_le_mul_of_nonneg_left h1 (show (0:Int) ≤ 1099511627776 by omega)
          have := Int.mul_le_mul_of_nonneg_right (show (1099511627776:Int) ≤ a by omega) hL
          omega
    rw [e, min_pow hL n (a * L) (Int.mul_nonneg ha hL), Int.pow_succ, Int.mul_assoc, Int.mul_comm L]
theorem elF_pow (ds : List Def) (p : Pick) : elF ds p = min (lenF ds p ^ (levF p.ty.wraps)) 1099511627776 := by
  have := min_pow (lenF_rng ds p).1 (levF p.ty.wraps) 1 (by omega)
  rw [show min (1 : Int) 1099511627776 = 1 from by omega, Int.one_mul] at this
  exact this
theorem min_mul_min {a b : Int} (ha : 0 ≤ a) (hb : 0 ≤ b) : min (min a 1099511627776 * b) 1099511627776 = min (a * b) 1099511627776 := by
  by_cases h : a ≤ 1099511627776
  · rw [Int.min_eq_left h]
  · rw [show min a 1099511627776 = 1099511627776 from by omega]
    by_cases h0 : b = 0
    · subst h0; simp
    · have h1 : 1 ≤ b := by omega
      have := Int.mul_le_mul_of_nonneg_left h1 (show (0:Int) ≤ 1099511627776 by omega)
      have := Int.mul_le_mul_of_nonneg_right (show (1099511627776:Int) ≤ a by omega) hb
      omega
theorem sumI_le {α : Type} (f : α → Int) (B : Int) (hB : 0 ≤ B) : ∀ (l : List α) (s : Int), (∀ x, x ∈ l → f x ≤ B) → sumI s (l.map f) ≤ s + l.length * B
  | [], s, _ => by simp [sumI]
  | x :: r, s, h => by
    have hx := h x (List.mem_cons_self ..)
    have ih := sumI_le f B hB r (min (s + f x) 1099511627776) fun y hy => h y (List.mem_cons_of_mem _ hy)
    have e : (((x :: r).length : Nat) : Int) * B = (r.length : Nat) * B + B := by
      simp only [List.length_cons]
      rw [show ((r.length + 1 : Nat) : Int) = (r.length : Nat) + 1 from by omega, Int.add_mul, Int.one_mul]
    simp only [List.map_cons, sumI]
    rw [e]; omega
def ActA (ds : List Def) (k : Nat) : Prop := ∀ (p : Pick) (n : Nat) (v : Val), wiF ds k p n v = true → acF ds k p.picks v ≤ min (lenF ds p ^ n * grF (costL ds p.picks)) 1099511627776
def ActB (ds : List Def) (k : Nat) : Prop := ∀ (l : List Pick) (v : Val), WiF (wiF ds k) l v = true → acF ds (k + 1) l v ≤ grF (costL ds l)
theorem actA_zero (ds : List Def) : ActA ds 0 := by
  intro p n v _
  have h1 : 0 ≤ lenF ds p ^ n := Int.pow_nonneg (lenF_rng ds p).1
  have := Int.mul_nonneg h1 (ofF_rng ds p.picks).1
  simp only [acF]; omega
theorem actA_succ (ds : List Def) (k : Nat) (ihA : ActA ds k) (ihB : ActB ds k) : ActA ds (k + 1) := by
  intro p n v hw
  have hg := ofF_rng ds p.picks
  have hL := (lenF_rng ds p).1
  have hpn : ∀ m : Nat, 0 ≤ lenF ds p ^ m * grF (costL ds p.picks) := fun m => Int.mul_nonneg (Int.pow_nonneg hL) hg.1
  simp only [wiF] at hw
  by_cases h5 : (v.kind == 5) = true
  · rw [if_pos h5] at hw
    simp only [Bool.and_eq_true, decide_eq_true_eq, List.all_eq_true] at hw
    obtain ⟨⟨hn, hlen⟩, hall⟩ := hw
    cases n with
    | zero => simp at hn
    | succ n =>
      have e : acF ds (k + 1) p.picks v = sumI 0 (v.items.map (acF ds k p.picks)) := by simp only [acF]; rw [if_pos h5]
      rw [e]
      have hb := sumI_le (acF ds k p.picks) (lenF ds p ^ n * grF (costL ds p.picks)) (hpn n) v.items 0 fun x hx => by
        have hx' := hall x hx
        rw [show ((n + 1 : Nat) : Int) - 1 = (n : Nat) from by omega] at hx'
        have := ihA p n x hx'
        omega
      have hr := sumI_rng (v.items.map (acF ds k p.picks)) 0 (by intro x hx; obtain ⟨y, _, rfl⟩ := List.mem_map.1 hx; exact acF_rng ds k p.picks y) (by omega)
      have hm := Int.mul_le_mul_of_nonneg_right hlen (hpn n)
      have e2 : lenF ds p * (lenF ds p ^ n * grF (costL ds p.picks)) = lenF ds p ^ (n + 1) * grF (costL ds p.picks) := by rw [Int.pow_succ, ← Int.mul_assoc, Int.mul_comm (lenF ds p)]
      rw [e2] at hm
      omega
  · rw [if_neg h5] at hw
    by_cases h6 : (v.kind == 6) = true
    · rw [if_pos h6] at hw
      simp only [Bool.and_eq_true] at hw
      obtain ⟨hn, hW⟩ := hw
      have hn0 : n = 0 := by have : (n : Int) = 0 := by simpa using hn
                             omega
      subst hn0
      have := ihB p.picks v hW
      simp only [Int.pow_zero, Int.one_mul]; omega
    · have ht : tokF v = false := by
        have hk : (v.kind != 6) = true := by simpa using h6
        simp only [tokF, getV]; rw [if_pos hk]; rfl
      have := hpn n
      simp only [acF]; rw [if_neg h5, ht]; simp; omega
theorem actB_of (ds : List Def) (k : Nat) (hA : ActA ds k) : ActB ds k := by
  intro l v hw
  simp only [WiF, Bool.and_eq_true, List.all_eq_true] at hw
  obtain ⟨hall, hk⟩ := hw
  have h5 : ¬ (v.kind == 5) = true := by simpa using hk
  have hg := ofF_rng ds l
  simp only [acF]; rw [if_neg h5]
  split
  · rename_i ht
    have key : ∀ (r : List Pick) (s s' : Int), (∀ p, p ∈ r → p ∈ l) → s ≤ s' → 0 ≤ s' → s' ≤ 1099511627776 → acL ds (acF ds k) v r s ≤ sumS (tnF v) (costL ds r) s' := by
      intro r
      induction r with
      | nil => intro s s' _ h _ _; exact h
      | cons p r ih =>
        intro s s' hm h h0 hM
        have hc := costP_rng ds p
        simp only [acL, costL, sumS]
        split
        · rename_i hon
          refine ih _ _ (fun q hq => hm q (List.mem_cons_of_mem _ hq)) ?_ (by omega) (by omega)
          have hp := hall p (hm p (List.mem_cons_self ..))
          simp only [wiO, ht, hon, Bool.and_self, Bool.not_true, Bool.false_or] at hp
          have hgp := ofF_rng ds p.picks
          have hcb : ((getV v p.key).map (acF ds k p.picks)).getD 0 ≤ min (elF ds p * grF (costL ds p.picks)) 1099511627776 := by
            cases hv : getV v p.key with
            | none =>
              have := mul_rng (elF_rng ds p).1 hgp.1
              simpa using this.1
            | some x =>
              rw [hv] at hp
              have hx := hA p (levF p.ty.wraps) x (by simpa using hp)
              rw [elF_pow, min_mul_min (Int.pow_nonneg (lenF_rng ds p).1) hgp.1]
              simpa using hx
          rw [costP_eq ds p]; omega
        · exact ih s s' (fun q hq => hm q (List.mem_cons_of_mem _ hq)) h h0 hM
    exact Int.le_trans (key l 0 0 (fun _ h => h) (by omega) (by omega) (by omega)) (sumS_le _ _)
  · exact hg.1
theorem actA_all (ds : List Def) : ∀ k, ActA ds k
  | 0 => actA_zero ds
  | k + 1 => actA_succ ds k (actA_all ds k) (actB_of ds k (actA_all ds k))
theorem act_bound (ds : List Def) (k : Nat) (l : List Pick) (v : Val) (h : WiF (wiF ds k) l v = true) : acF ds (k + 1) l v ≤ grF (costL ds l) := actB_of ds k (actA_all ds k) l v h
end Go.GB.C43

/-
  A40N: contracts of chapter 40's functions: the example.
-/
namespace Go.GB.C43
open Go.GB
set_option linter.unusedSimpArgs false
set_option linter.unusedVariables false
set_option maxRecDepth 100000
set_option maxHeartbeats 2000000
variable {P : Program}

/- the texts of the example -/
def uMe : Str := [109, 101]
def uUser : Str := [85, 115, 101, 114]
def uPosts : Str := [112, 111, 115, 116, 115]
def uPost : Str := [80, 111, 115, 116]
def uText : Str := [116, 101, 120, 116]
def uString : Str := [83, 116, 114, 105, 110, 103]
def uQuery : Str := [81, 117, 101, 114, 121]
def uTn : Str := [95, 95, 116, 121, 112, 101, 110, 97, 109, 101]
def uLs : Str := [108, 105, 115, 116, 83, 105, 122, 101]
def uAss : Str := [97, 115, 115, 117, 109, 101, 100]
def uCost : Str := [99, 111, 115, 116]
def uWeight : Str := [119, 101, 105, 103, 104, 116]
def numD (n a : Str) (k : Int) : List Dir := [⟨n, [⟨a, .mk 2 k [] [] []⟩]⟩]
def meF40 : Field := ⟨uMe, [], ⟨uUser, []⟩, []⟩
def postsF40 : Field := ⟨uPosts, [], ⟨uPost, [2]⟩, numD uLs uAss 10⟩
def textF40 : Field := ⟨uText, [], ⟨uString, []⟩, numD uCost uWeight 2⟩
def ex40Ds : List Def := [⟨1, uQuery, [], [], [meF40], [], []⟩, ⟨1, uUser, [], [], [postsF40], [], []⟩, ⟨1, uPost, [], [], [textF40], [], []⟩]
def xP40 : Pick := .mk uText uPost uText [] ⟨uString, []⟩ [] (-1) []
def yP40 : Pick := .mk uPosts uUser uPosts [] ⟨uPost, [2]⟩ [] (-1) [xP40]
def mP40 : Pick := .mk uMe uQuery uMe [] ⟨uUser, []⟩ [] (-1) [yP40]
def ex40L : List Pick := [mP40]
def objV40 (on key : Str) (v : Val) : Val := .mk 6 0 [] [.mk 3 0 on [] [], v] [typS, key]

theorem number40_ok (H : Pr40 P) (n a : Str) (k : Int) : FnOk P 106 [.t (.str n), .t (.str a), .t (.int .i64 k)] ⟨[], 0⟩ { v := .t (.lst ((numD n a k).map Dir.enc)) } := by
  refine FnOk.run H.i106 H.mixed rfl rfl ?_
  refine fR rfl ?_
  refine Run.fin rfl (EndOk.go ?_); exact .own rfl
theorem text40_ok (H : Pr40 P) (s : Str) : FnOk P 66 [.t (.str s)] ⟨[], 0⟩ { v := (Val.mk 3 0 s [] []).v } := by
  refine FnOk.run H.i66 H.mixed rfl rfl ?_
  refine fR rfl ?_
  refine Run.fin rfl (EndOk.go ?_); exact .agg (.cons (.t rfl) (.cons (.t rfl) (.cons (.t rfl) (.cons (.nil rfl) (.cons (.nil rfl) .nil)))))
theorem object40_ok (H : Pr40 P) (on key : Str) (v : Val) : FnOk P 65 [.t (.str on), .t (.str key), v.v] ⟨[], 0⟩ { v := (objV40 on key v).v } := by
  refine FnOk.run H.i65 H.mixed rfl rfl ?_
  refine fR rfl ?_
  refine Mid.call (text40_ok H on) rfl rfl rfl rfl ?_
  refine fM rfl ?_
  refine Run.fin rfl (EndOk.go ?_); exact .agg (.cons (.t rfl) (.cons (.t rfl) (.cons (.t rfl) (.cons (.own (by show _ = [Val.enc _, Val.enc _]; rw [Val.enc_eq, Val.enc_eq]; rfl)) (.cons (.own rfl) .nil)))))
theorem example40_ok (H : Pr40 P) : FnOk P 64 [] ⟨[], 0⟩ { v := .tup [docV ex40Ds, .t (.lst (ex40L.map Pick.enc))] } := by
  refine FnOk.run H.i64 H.mixed rfl rfl ?_
  refine fR rfl ?_
  refine Mid.call (number40_ok H uLs uAss 10) rfl rfl rfl rfl ?_
  refine fM rfl ?_
  refine Mid.call (number40_ok H uCost uWeight 2) rfl rfl rfl rfl ?_
  refine Mid.fast (f := 40) rfl trivial ?_
  refine Mid.bslP rfl rfl rfl ?_
  refine Mid.fast (f := 1) rfl trivial ?_
  refine Mid.bslP rfl rfl rfl ?_
  refine fM rfl ?_
  refine Run.fin rfl (EndOk.go ?_); exact .tup2 (.agg (.cons (.own rfl) .nil)) (.t rfl)

def post40 : Val := objV40 uPost uText (.mk 3 0 [97] [] [])
def raw40 : Val := objV40 uQuery uMe (objV40 uUser uPosts (.mk 5 0 [] [post40, post40] []))
theorem ex40_of : grF (costL ex40Ds ex40L) = 22 := by kernel_rfl
theorem ex40_w1 : wtF ex40Ds uPost uText = 2 := by kernel_rfl
theorem ex40_w2 : wtF ex40Ds uPost uTn = 0 := by kernel_rfl
theorem ex40_len : lenF ex40Ds yP40 = 10 := by kernel_rfl
theorem ex40_size : SizeOf.sizeOf raw40 ≤ 100000 := Nat.le_of_ble_eq_true (by kernel_rfl)
theorem ex40_act : actF ex40Ds 100000 uQuery ex40L raw40 = 6 := by kernel_rfl
theorem ex40_win : WiF (wiF ex40Ds 100000) ex40L raw40 = true := by kernel_rfl
theorem num_ok (n a : Str) (k : Int) : ∀ d, d ∈ numD n a k → d.Ok := by
  intro d hd; simp [numD] at hd; subst hd
  refine ⟨by simp, ?_⟩
  intro x hx; simp at hx; subst hx
  exact .mk (by decide) (by decide) (by simp) (by decide) (by simp)
theorem meF40_ok : meF40.Ok := ⟨by decide, by simp [meF40], ⟨by decide⟩, by decide, by simp [meF40]⟩
theorem postsF40_ok : postsF40.Ok := ⟨by decide, by simp [postsF40], ⟨by decide⟩, by decide, num_ok _ _ _⟩
theorem textF40_ok : textF40.Ok := ⟨by decide, by simp [textF40], ⟨by decide⟩, by decide, num_ok _ _ _⟩
theorem ex40Ds_ok : DocOk ex40Ds := by
  refine ⟨by decide, ?_⟩
  intro d hd
  simp [ex40Ds] at hd
  rcases hd with rfl | rfl | rfl
  · exact ⟨by decide, by decide, by simp, by decide, by intro y hy; simp at hy; subst hy; exact meF40_ok, by decide, by simp, by decide, by simp⟩
  · exact ⟨by decide, by decide, by simp, by decide, by intro y hy; simp at hy; subst hy; exact postsF40_ok, by decide, by simp, by decide, by simp⟩
  · exact ⟨by decide, by decide, by simp, by decide, by intro y hy; simp at hy; subst hy; exact textF40_ok, by decide, by simp, by decide, by simp⟩
theorem xP40_ok : xP40.Ok := .mk (by decide) (by simp) ⟨by decide⟩ (by decide) (by simp)
theorem yP40_ok : yP40.Ok := .mk (by decide) (by simp) ⟨by decide⟩ (by decide) (by intro q hq; simp at hq; subst hq; exact xP40_ok)
theorem ex40L_ok : ∀ p, p ∈ ex40L → p.Ok := by
  intro p hp; simp [ex40L] at hp; subst hp
  exact .mk (by decide) (by simp) ⟨by decide⟩ (by decide) (by intro q hq; simp at hq; subst hq; exact yP40_ok)
theorem txt40_ok (s : Str) (h : s.length ≤ 9223372036854775807) : (Val.mk 3 0 s [] []).Ok := .mk (by decide) (by decide) (by simp) h (by simp)
theorem obj40_ok {on key : Str} (h1 : on.length ≤ 9223372036854775807) (h2 : key.length ≤ 9223372036854775807) {v : Val} (hv : v.Ok) : (objV40 on key v).Ok :=
  .mk (by simp [B47]) (by simp [B47]) (by intro x hx; simp at hx; rcases hx with rfl | rfl; exact txt40_ok _ h1; exact hv) (by decide) (by intro x hx; simp at hx; rcases hx with rfl | rfl; decide; exact h2)
theorem raw40_ok : raw40.Ok := by
  have hp : post40.Ok := obj40_ok (by decide) (by decide) (txt40_ok _ (by decide))
  exact obj40_ok (by decide) (by decide) (obj40_ok (by decide) (by decide) (.mk (by decide) (by decide) (by intro x hx; simp at hx; subst hx; exact hp) (by decide) (by simp)))
theorem ex40Holds_ok (H : Pr40 P) : FnOk P 33 [] ⟨[], 0⟩ { v := .t (.bool true) } := by
  have h1 := of_ok H ex40Ds ex40Ds_ok 1 ex40L ex40L_ok (by decide)
  rw [ex40_of] at h1
  have h2 := wt_ok H ex40Ds ex40Ds_ok uPost uText
  rw [ex40_w1] at h2
  have h3 := wt_ok H ex40Ds ex40Ds_ok uPost uTn
  rw [ex40_w2] at h3
  have h4 := length_ok H ex40Ds ex40Ds_ok yP40 yP40_ok
  rw [ex40_len] at h4
  have h5 := actual_ok H ex40Ds ex40Ds_ok uQuery ex40L (by decide) ex40L_ok raw40 raw40_ok 100000 ex40_size
  rw [ex40_act] at h5
  have h6 := Within_ok H ex40Ds ex40Ds_ok ex40L (by decide) ex40L_ok raw40 raw40_ok 100000 ex40_size
  rw [ex40_win] at h6
  unfold WinC at h6
  have e1 : ex40L[0]? = some mP40 := rfl
  have e2 : mP40.picks[0]? = some yP40 := rfl
  refine FnOk.run H.i33 H.mixed rfl rfl ?_
  refine fR rfl ?_
  refine Mid.call (example40_ok H) rfl rfl rfl rfl ?_
  refine fM rfl ?_
  refine Mid.call (text40_ok H [97]) rfl rfl rfl rfl ?_
  skip
  refine Mid.call (object40_ok H uPost uText (.mk 3 0 [97] [] [])) rfl rfl rfl rfl ?_
  refine Mid.fast (f := 6) rfl trivial ?_
  refine Mid.bslP rfl rfl rfl ?_
  refine fM rfl ?_
  refine Mid.call (object40_ok H uUser uPosts (.mk 5 0 [] [post40, post40] [])) rfl rfl rfl rfl ?_
  skip
  refine Mid.call (object40_ok H uQuery uMe (objV40 uUser uPosts (.mk 5 0 [] [post40, post40] []))) rfl rfl rfl rfl ?_
  refine fM rfl ?_
  refine Mid.call (h1) rfl rfl rfl rfl ?_
  refine fM rfl ?_
  refine Mid.ungd rfl rfl rfl ?_
  refine Mid.call (h2) rfl rfl rfl rfl ?_
  refine fM rfl ?_
  refine Mid.ungd rfl rfl rfl ?_
  refine Mid.call (h3) rfl rfl rfl rfl ?_
  refine fM rfl ?_
  refine gr rfl ?_
  refine fM rfl ?_
  refine gr rfl ?_
  refine fM rfl ?_
  refine Mid.ungd rfl rfl rfl ?_
  refine Mid.call (h4) rfl rfl rfl rfl ?_
  refine fM rfl ?_
  refine Mid.ungd rfl rfl rfl ?_
  refine Mid.call (h5) rfl rfl rfl rfl ?_
  refine fM rfl ?_
  refine Mid.ungd rfl rfl rfl ?_
  refine Mid.call (h6) rfl rfl rfl rfl ?_
  refine fM rfl ?_
  refine Run.fin rfl (EndOk.go ?_); exact .t rfl
end Go.GB.C43

/-
  A40O: laws of chapter 40: fields, operations, results.
-/
namespace Go.GB.C43
open Go.GB
set_option linter.unusedSimpArgs false
set_option linter.unusedVariables false
set_option maxRecDepth 100000
set_option maxHeartbeats 2000000
variable {P : Program}

theorem law8_ok (H : Pr40 P) (ds : List Def) (hD : DocOk ds) (on f : Str) (p : Pick) (hp : p.Ok) :
    FnOk P 8 [docV ds, .t (.str on), .t (.str f), p.v] ⟨[], 0⟩ { v := .t (.bool true) } := by
  have hl := large40_ok H ds hD [p] (by simp) (by intro q hq; simp at hq; subst hq; exact hp)
  rw [show [p].map Pick.enc = [p.cs] from by rw [List.map_cons, Pick.enc_eq]; rfl] at hl
  refine FnOk.run H.i8 H.mixed rfl rfl ?_
  refine Run.fast (f := 8) rfl trivial ?_
  refine Mid.bslP rfl rfl rfl ?_
  skip
  refine Mid.call (hl) rfl rfl rfl rfl ?_
  refine fM rfl ?_
  refine Run.cond rfl rfl (fun h => ?_) (fun h => ?_)
  · refine fR rfl ?_
    refine Mid.call (ex40Holds_ok H) rfl rfl rfl rfl ?_
    refine fM rfl ?_
    refine Run.fin rfl (EndOk.go ?_); exact .t rfl
  · refine fR rfl ?_
    refine Mid.call (wt_ok H ds hD on f) rfl rfl rfl rfl ?_
    refine fM rfl ?_
    refine Mid.call (rWt_ok H ds hD on f) rfl rfl rfl rfl ?_
    refine fM rfl ?_
    refine caG rfl rfl (fun hg => ⟨_, rfl, length_ok H ds hD p hp, rfl⟩) rfl rfl ?_
    refine fM rfl ?_
    refine caG rfl rfl (fun hg => ⟨_, rfl, rLength_ok H ds hD p hp, rfl⟩) rfl rfl ?_
    refine fM rfl ?_
    refine caG rfl rfl (fun hg => ⟨_, rfl, ex40Holds_ok H, rfl⟩) rfl rfl ?_
    refine fM rfl ?_
    refine Run.fin rfl (EndOk.go ?_); exact .t (by simp)
theorem law9_ok (H : Pr40 P) (ds : List Def) (hD : DocOk ds) (kd : Int) (l : List Pick) (hl : l.length * 160 ≤ 140737488355328) (hO : ∀ p, p ∈ l → p.Ok) :
    FnOk P 9 [docV ds, plainV kd l] ⟨[], 0⟩ { v := .t (.bool true) } := by
  refine FnOk.run H.i9 H.mixed rfl rfl ?_
  refine fR rfl ?_
  refine Mid.call (large40_ok H ds hD l hl hO) rfl rfl rfl rfl ?_
  refine fM rfl ?_
  refine Run.cond rfl rfl (fun h => ?_) (fun h => ?_)
  · refine fR rfl ?_
    refine Mid.call (ex40Holds_ok H) rfl rfl rfl rfl ?_
    refine fM rfl ?_
    refine Run.fin rfl (EndOk.go ?_); exact .t rfl
  · refine fR rfl ?_
    refine Mid.call (of_ok H ds hD kd l hO hl) rfl rfl rfl rfl ?_
    refine fM rfl ?_
    refine Mid.call (rOf_ok H ds hD kd l hO hl) rfl rfl rfl rfl ?_
    refine fM rfl ?_
    refine caG rfl rfl (fun hg => ⟨_, rfl, ex40Holds_ok H, rfl⟩) rfl rfl ?_
    refine fM rfl ?_
    refine Run.fin rfl (EndOk.go ?_); exact .t (by simp)
/-- Case of chapter 40: schema, root type, picks, raw value -/
def case40V (ds : List Def) (root : Str) (l : List Pick) (v : Val) : V := .agg [.t (.lst (ds.map Def.enc)), .t (.str root), .t (.lst (l.map Pick.enc)), .t (.int .i64 v.kind), .t (.int .i64 v.int), .t (.str v.text), .t (.lst (v.items.map Val.enc)), .t (.lst (v.keys.map sE))]
theorem law10_ok (H : Pr40 P) (ds : List Def) (hD : DocOk ds) (root : Str) (l : List Pick) (hl : l.length * 160 ≤ 140737488355328) (hO : ∀ p, p ∈ l → p.Ok) (v : Val) (hv : v.Ok) :
    FnOk P 10 [case40V ds root l v] ⟨[], 0⟩ { v := .t (.bool true) } := by
  have hW1 := Within_ok H ds hD l hl hO v hv _ (Nat.le_refl _)
  have hW2 := rWithinL_ok H ds hD l hl hO v hv _ (Nat.le_refl _)
  unfold WinC at hW1 hW2
  refine FnOk.run H.i10 H.mixed rfl rfl ?_
  refine fR rfl ?_
  refine Mid.call (large40_ok H ds hD l hl hO) rfl rfl rfl rfl ?_
  refine fM rfl ?_
  refine caG rfl rfl (fun hg => ⟨_, rfl, wVal_ok H.toPr 2000 v hv, rfl⟩) rfl rfl ?_
  refine fM rfl ?_
  refine Run.cond rfl rfl (fun h => ?_) (fun h => ?_)
  · refine fR rfl ?_
    refine Mid.call (ex40Holds_ok H) rfl rfl rfl rfl ?_
    refine fM rfl ?_
    refine Run.fin rfl (EndOk.go ?_); exact .t rfl
  · refine fR rfl ?_
    refine Mid.call (actual_ok H ds hD root l hl hO v hv _ (Nat.le_refl _)) rfl rfl rfl rfl ?_
    refine fM rfl ?_
    refine Mid.call (rActual_ok H ds hD root l hl hO v hv _ (Nat.le_refl _)) rfl rfl rfl rfl ?_
    refine fM rfl ?_
    refine caG rfl rfl (fun hg => ⟨_, rfl, hW1, rfl⟩) rfl rfl ?_
    refine fM rfl ?_
    refine caG rfl rfl (fun hg => ⟨_, rfl, hW2, rfl⟩) rfl rfl ?_
    refine fM rfl ?_
    refine caG rfl rfl (fun hg => ⟨_, rfl, ex40Holds_ok H, rfl⟩) rfl rfl ?_
    refine fM rfl ?_
    refine Run.fin rfl (EndOk.go ?_); exact .t (by simp)
theorem law11_ok (H : Pr40 P) (ds : List Def) (hD : DocOk ds) (root : Str) (l : List Pick) (hl : l.length * 160 ≤ 140737488355328) (hO : ∀ p, p ∈ l → p.Ok) (v : Val) (hv : v.Ok) :
    FnOk P 11 [case40V ds root l v] ⟨[], 0⟩ { v := .t (.bool true) } := by
  have hW1 := Within_ok H ds hD l hl hO v hv _ (Nat.le_refl _)
  have hs := single_ok H _ l (Nat.le_refl _) hl hO
  unfold WinC at hW1
  unfold SinC at hs
  refine FnOk.run H.i11 H.mixed rfl rfl ?_
  refine fR rfl ?_
  refine Mid.call (large40_ok H ds hD l hl hO) rfl rfl rfl rfl ?_
  refine fM rfl ?_
  refine caG rfl rfl (fun hg => ⟨_, rfl, wVal_ok H.toPr 2000 v hv, rfl⟩) rfl rfl ?_
  refine fM rfl ?_
  refine caG rfl rfl (fun hg => ⟨_, rfl, hs, rfl⟩) rfl rfl ?_
  refine fM rfl ?_
  refine Run.cond rfl rfl (fun h => ?_) (fun h => ?_)
  · refine fR rfl ?_
    refine Mid.call (ex40Holds_ok H) rfl rfl rfl rfl ?_
    refine fM rfl ?_
    refine Run.fin rfl (EndOk.go ?_); exact .t rfl
  · refine fR rfl ?_
    refine rList l (fun i (_ : Unit) => { env := [(1, .ptr 0 0), (3, .t (.int .i64 i))], s := ⟨[(0, .cells [.t (.lst (ds.map Def.enc)), .t (.str root), .t (.lst (l.map Pick.enc)), .t (.int .i64 v.kind), .t (.int .i64 v.int), .t (.str v.text), .t (.lst (v.items.map Val.enc)), .t (.lst (v.keys.map sE))])], 1⟩ }) (fun r i _ => True) 1 () rfl trivial rfl rfl rfl ?_ ?_
    · intro _ _
      have hn : 0 ≤ actF ds (SizeOf.sizeOf v + 1) root l v ∧ actF ds (SizeOf.sizeOf v + 1) root l v ≤ 1099511627776 := by
        unfold actF; split
        · exact acF_rng ds _ l v
        · omega
      have hb : WiF (wiF ds (SizeOf.sizeOf v)) l v = true → actF ds (SizeOf.sizeOf v + 1) root l v ≤ grF (costL ds l) := fun h => by
        unfold actF; split
        · exact act_bound ds _ l v h
        · exact (ofF_rng ds l).1
      refine fR rfl ?_
      refine lM rfl rfl rfl ?_
      refine fM rfl ?_
      refine Run.condF rfl rfl (by simp) ?_
      refine fR rfl ?_
      refine Mid.call (actual_ok H ds hD root l hl hO v hv _ (Nat.le_succ _)) rfl rfl rfl rfl ?_
      refine fM rfl ?_
      generalize actF ds (SizeOf.sizeOf v + 1) root l v = A at hn hb
      skip
      refine caG rfl rfl (fun hg => ⟨_, rfl, hW1, rfl⟩) rfl rfl ?_
      refine fM rfl ?_
      refine caG rfl rfl (fun hg => ⟨_, rfl, of_ok H ds hD 1 l hO hl, rfl⟩) rfl rfl ?_
      refine fM rfl ?_
      refine caG rfl rfl (fun hg => ⟨_, rfl, ex40Holds_ok H, rfl⟩) rfl rfl ?_
      refine fM rfl ?_
      refine Run.fin rfl (EndOk.go ?_); exact .t (by
        cases hw : WiF (wiF ds (SizeOf.sizeOf v)) l v with
        | false => simp; omega
        | true => have := hb hw; simp; omega)
    · intro i x r _ h1 hi hd _ ih
      refine fR rfl ?_
      refine lM rfl rfl rfl ?_
      refine fM rfl ?_
      refine Run.condT rfl rfl (by simp; omega) ?_
      refine fR rfl ?_
      refine Mid.elemMapC (Pick.enc_eq x) rfl rfl rfl h1 rfl rfl ?_
      refine fM rfl ?_
      refine Run.cond rfl rfl (fun hx => ?_) (fun hx => ?_)
      · refine fR rfl ?_
        refine Mid.call (ex40Holds_ok H) rfl rfl rfl rfl ?_
        refine fM rfl ?_
        refine Run.fin rfl (EndOk.go ?_); exact .t rfl
      · refine fR rfl ?_
        refine aL rfl rfl rfl rfl rfl ?_
        refine fM rfl ?_
        exact rWeak 1 rfl (ih () trivial) rfl rfl rfl
end Go.GB.C43

/-
  A40P: laws of chapter 40: costs of parts.
-/
namespace Go.GB.C43
open Go.GB
set_option linter.unusedSimpArgs false
set_option linter.unusedVariables false
set_option maxRecDepth 100000
set_option maxHeartbeats 2000000
variable {P : Program}

section
variable {n m : Nat} {R : St → Prop} {draw : Bool} {all : List AO} {after : List (List Nat)} {live : List Nat} {k : List It} {b : Nat} {fl : List (Bool × Bool)} {ops : List AO} {st st' : St} {d : Option Nat}
theorem sub_one {α : Type} {l : List α} {i : Nat} {y : α} (h1 : l[i]? = some y) : (l.take (i + 1)).drop i = [y] := by
  obtain ⟨hi, hy⟩ := List.getElem?_eq_some_iff.1 h1
  rw [List.drop_take, show i + 1 - i = 1 from by omega, List.drop_eq_getElem_cons hi]
  simp [hy]
/-- the part of a list that holds one element -/
theorem Mid.lstOne {α : Type} {f : α → List T} {l : List α} {sz : Nat} {x lo hi : Ar} {v : V} {kd kd' : IntKind} {i : Nat} {y : α} (hx : rd true st x = (v, [])) (hv : v.cell1 = some (.lst (l.map f))) (hl : rd true st lo = (.t (.int kd i), [])) (hh : rd true st hi = (.t (.int kd' ((i + 1 : Nat) : Int)), [])) (h1 : l[i]? = some y) (hsz : ∀ x, (f x).length = sz) (hs : stepV st d (.t (.lst [f y])) some = some st')
    (h' : Mid P n m R draw all after live k b ((false, false) :: fl) ops st') : Mid P n m R draw all after live k b fl (⟨d, none, .sll sz x (some lo) (some hi)⟩ :: ops) st :=
  Mid.val (v := .t (.lst [f y])) (ps := [true, true, true, true]) (by
    have hi' := (List.getElem?_eq_some_iff.1 h1).1
    have e : ((l.map f).take (i + 1)).drop i = [f y] := sub_one (by simp [h1])
    simp only [evalE, hx, hv, bnd, hl, hh]
    simp [allLen, hsz, e]
    omega) rfl ⟨rfl, rfl, rfl, rfl, trivial⟩ hs h'
end

def on0 (l : List Pick) : Str := (l.head?.map Pick.on).getD []
theorem wos_Ok : ∀ (k : Nat) (l : List Pick) (j : Int), SizeOf.sizeOf l ≤ k → (∀ p, p ∈ l → p.Ok) → ∀ p, p ∈ (wos l j).1 → p.Ok
  | k, [], j, _, _, p, hp => by simp [wos] at hp
  | 0, p :: r, j, h, _, _, _ => by simp at h
  | k + 1, p :: r, j, h, hO, q, hq => by
    have hs : SizeOf.sizeOf r ≤ k ∧ SizeOf.sizeOf p.picks ≤ k := by
      cases p; simp [Pick.picks] at h ⊢; omega
    have hp := hO p (List.mem_cons_self ..)
    have hr : ∀ x, x ∈ r → x.Ok := fun x hx => hO x (List.mem_cons_of_mem _ hx)
    simp only [wos] at hq
    split at hq
    · exact wos_Ok k r (-1) hs.1 hr q hq
    · split at hq
      · rw [woP_eq] at hq
        rcases List.mem_cons.1 hq with rfl | hq
        · have hl := wos_len p.picks (j - 1)
          have hpl := hp.pl
          have hpp := wos_Ok k p.picks (j - 1) hs.2 hp.p
          cases p
          exact .mk hp.al hp.aa hp.t (by unfold B47; simp only [Pick.picks] at *; omega) hpp
        · exact wos_Ok k r _ hs.1 hr q hq
      · rcases List.mem_cons.1 hq with rfl | hq
        · exact hp
        · exact wos_Ok k r j hs.1 hr q hq

theorem law12_ok (H : Pr40 P) (ds : List Def) (hD : DocOk ds) (kd : Int) (l : List Pick) (hl : l.length * 160 ≤ 140737488355328) (hO : ∀ p, p ∈ l → p.Ok) (j : Int) (hj : -9223372036854775808 ≤ j ∧ j ≤ 9223372036854775807) :
    FnOk P 12 [docV ds, plainV kd l, .t (.int .i64 j)] ⟨[], 0⟩ { v := .t (.bool true) } := by
  refine FnOk.run H.i12 H.mixed rfl rfl ?_
  refine fR rfl ?_
  refine Mid.call (large40_ok H ds hD l hl hO) rfl rfl rfl rfl ?_
  refine fM rfl ?_
  refine Run.cond rfl rfl (fun h => ?_) (fun h => ?_)
  · refine fR rfl ?_
    refine Mid.call (ex40Holds_ok H) rfl rfl rfl rfl ?_
    refine fM rfl ?_
    refine Run.fin rfl (EndOk.go ?_); exact .t rfl
  · refine fR rfl ?_
    refine rList l (fun i (B : Int × Bool) => { env := [(2, .t (.int .i64 j)), (3, .ptr 0 0), (4, .ptr 1 0), (7, .t (.int .i64 B.1)), (8, .t (.bool B.2)), (9, .t (.int .i64 i))], s := ⟨[(0, .cells [.t (.lst (ds.map Def.enc))]), (1, .cells [.t (.int .i64 kd), .t (.lst (l.map Pick.enc))])], 2⟩ }) (fun r i B => (0 ≤ B.1 ∧ B.1 ≤ 1099511627776) ∧ sumI 0 (l.map (costP ds)) = sumI B.1 (r.map (costP ds)) ∧ l.all (fun p => p.on == on0 l) = (B.2 && r.all (fun p => p.on == on0 l))) 2 (0, true) rfl ⟨by simp, rfl, rfl⟩ rfl rfl rfl ?_ ?_
    · rintro ⟨a, s⟩ ⟨ha0, ha, hs⟩
      have hs' : l.all (fun p => p.on == on0 l) = s := by rw [hs]; simp
      have ha' : sumI 0 (l.map (costP ds)) = a := by rw [ha]; rfl
      refine fR rfl ?_
      refine lM rfl rfl rfl ?_
      refine fM rfl ?_
      refine Run.condF rfl rfl (by simp) ?_
      refine fR rfl ?_
      refine Mid.call (of_ok H ds hD kd l hO hl) rfl rfl rfl rfl ?_
      refine fM rfl ?_
      have e0 : ¬ (s = true ∧ ¬ grF (costL ds l) = a) := by
        rintro ⟨e1, e2⟩
        rw [e1] at hs'
        exact e2 (by rw [grF_same ds l (on0 l) (fun p hp => by have := List.all_eq_true.1 hs' p hp; simpa using this), ha'])
      refine Run.condF rfl rfl (by
        cases s with
        | false => rfl
        | true => have := e0; simp at this; simp [this]) ?_
      refine fR rfl ?_
      refine Run.cond rfl rfl (fun hj0 => ?_) (fun hj0 => ?_)
      · have hj1 : 0 ≤ j := by simpa using hj0
        have hw := without_ok H _ l j (Nat.le_refl _) hl hO hj
        unfold WoC at hw
        have hwl := wos_len l j
        have hwo := of_ok H ds hD kd (wos l j).1 (wos_Ok _ l j (Nat.le_refl _) hO) (by omega)
        have hle := parts_less ds l j
        generalize wos l j = G at hw hwl hwo hle
        refine fR rfl ?_
        refine Mid.call (hw) rfl rfl rfl rfl ?_
        refine fM rfl ?_
        refine Mid.call (hwo) rfl rfl rfl rfl ?_
        refine fM rfl ?_
        refine Run.condF rfl rfl (by simp; omega) ?_
        refine fR rfl ?_
        refine Mid.call (ex40Holds_ok H) rfl rfl rfl rfl ?_
        refine fM rfl ?_
        refine Run.fin rfl (EndOk.go ?_); exact .t rfl
      · refine fR rfl ?_
        refine Mid.call (ex40Holds_ok H) rfl rfl rfl rfl ?_
        refine fM rfl ?_
        refine Run.fin rfl (EndOk.go ?_); exact .t rfl
    · rintro i x r ⟨a, s⟩ h1 hi hd ⟨ha0, ha, hs⟩ ih
      have ha1 : 0 ≤ a ∧ a ≤ 1099511627776 := ha0
      have hc := costP_rng ds x
      have hx := hO x (List.mem_of_getElem? h1)
      have h1O := of_ok H ds hD kd [x] (by intro q hq; simp at hq; subst hq; exact hx) (by simp)
      rw [grF_one] at h1O
      obtain ⟨x0, h0⟩ : ∃ x0, l[0]? = some x0 := by
        cases l with
        | nil => simp at hi
        | cons y _ => exact ⟨y, rfl⟩
      have hon0 : on0 l = x0.on := by
        cases l with
        | nil => simp at hi
        | cons y _ => simp at h0; subst h0; rfl
      refine fR rfl ?_
      refine lM rfl rfl rfl ?_
      refine fM rfl ?_
      refine Run.condT rfl rfl (by simp; omega) ?_
      refine Run.fast (f := 8) rfl trivial ?_
      refine aL rfl rfl rfl rfl rfl ?_
      refine Mid.lstOne rfl rfl rfl rfl h1 (fun x => by rw [Pick.enc_eq]; rfl) rfl ?_
      refine fM rfl ?_
      refine Mid.call (h1O) rfl rfl rfl rfl ?_
      refine fM rfl ?_
      refine Run.condF rfl rfl (by simp; omega) ?_
      refine fR rfl ?_
      refine a64 rfl rfl rfl ?_
      refine fM rfl ?_
      refine Mid.elemMapCG (Pick.enc_eq x) rfl rfl rfl rfl h1 rfl (by (repeat' (first | exact trivial | exact Bool.not_or_self _ | exact grd1 _ | exact grd2 _ | exact grd3 _ _ | exact grd4 _ _ | refine And.intro ?_ ?_ | exact rfl | (simp; done) | (simp <;> omega))); done) (by (repeat' (first | exact trivial | exact Bool.not_or_self _ | exact grd1 _ | exact grd2 _ | exact grd3 _ _ | exact grd4 _ _ | refine And.intro ?_ ?_ | exact rfl | (simp; done) | (simp <;> omega))); done) rfl ?_
      refine fM rfl ?_
      refine Mid.elemMapCG (Pick.enc_eq x0) rfl rfl rfl rfl h0 rfl (by (repeat' (first | exact trivial | exact Bool.not_or_self _ | exact grd1 _ | exact grd2 _ | exact grd3 _ _ | exact grd4 _ _ | refine And.intro ?_ ?_ | exact rfl | (simp; done) | (simp <;> omega))); done) (by (repeat' (first | exact trivial | exact Bool.not_or_self _ | exact grd1 _ | exact grd2 _ | exact grd3 _ _ | exact grd4 _ _ | refine And.intro ?_ ?_ | exact rfl | (simp; done) | (simp <;> omega))); done) rfl ?_
      refine fM rfl ?_
      refine aL rfl rfl rfl rfl rfl ?_
      refine fM rfl ?_
      rw [min_if]
      exact rWeak 2 rfl (ih (min (a + costP ds x) 1099511627776, s && x.on == x0.on) ⟨by simp; omega, by rw [ha]; rfl, by rw [hs, List.all_cons, hon0, Bool.and_assoc]⟩) rfl rfl rfl
end Go.GB.C43

/-
  GbX: what a law is handed, as trees; a law's row from its contract.
-/
namespace Go.GB
open Go.RowKit Go.WideShapes Go.ChangeShapes

abbrev allFix : Nat → Lab := fun _ => .fix none

/-- trees of a type -/
def WT (P : Program) : Nat → TypeId → List T → Prop
  | 0, _, _ => False
  | n + 1, t, ts =>
    match P.underlying t with
    | some .bool => ∃ b, ts = [.bool b]
    | some (.int k) => ∃ x, ts = [.int k x] ∧ (Lit.int k x).wf = true
    | some .string => ∃ s, ts = [.str s] ∧ s.length ≤ maxLen
    | some (.slice e) => ∃ xs, ts = [.lst xs] ∧ xs.length * P.bytesOf e ≤ reachBytes ∧ xs.length ≤ maxLen ∧ ∀ c ∈ xs, WT P n e c
    | some (.struct fs) => ts.length = P.cellsOf t ∧ ∀ f ∈ fs.toList, WT P n f.type ((ts.drop f.offset).take (P.cellsOf f.type))
    | some (.array m e) => ts.length = P.cellsOf t ∧ ∀ i, i < m → WT P n e ((ts.drop (i * P.cellsOf e)).take (P.cellsOf e))
    | _ => False

/-- places that follow each other: where they end -/
def consec (P : Program) : Nat → List (Nat × TypeId) → Option Nat
  | off, [] => some off
  | off, (o, t) :: r => if o = off then consec P (off + P.cellsOf t) r else none

/-- types of plain data: closed under their parts -/
def plainT (P : Program) (S : List TypeId) : Bool :=
  S.all fun t =>
    match P.underlying t with
    | some .bool => true
    | some (.int _) => true
    | some .string => true
    | some (.slice e) => S.contains e && decide (0 < P.cellsOf e)
    | some (.struct fs) => (fs.toList.all fun f => S.contains f.type) && (consec P 0 (fs.toList.map fun f => (f.offset, f.type)) == some (P.cellsOf t))
    | some (.array m e) => S.contains e && (consec P 0 ((List.range m).map fun i => (i * P.cellsOf e, e)) == some (P.cellsOf t))
    | _ => false

def RepL (w : World) (cs : List Value) (ts : List T) : Prop := cs.length = ts.length ∧ ∀ (j : Nat) (v : Value) (x : T), cs[j]? = some v → ts[j]? = some x → RepT allFix w v x

theorem RepL.one {w : World} {v : Value} {x : T} (h : RepT allFix w v x) : RepL w [v] [x] := by
  refine ⟨rfl, fun j u y h1 h2 => ?_⟩
  cases j with
  | zero => simp at h1 h2; subst h1; subst h2; exact h
  | succ j => simp at h1

theorem mapM_at {α β : Type} {g : α → Option β} : ∀ {l : List α} {r : List β}, l.mapM g = some r → l.length = r.length ∧ ∀ (j : Nat) (x : α), l[j]? = some x → ∃ y, r[j]? = some y ∧ g x = some y
  | [], r, h => by simp at h; subst h; simp
  | a :: l, r, h => by
    simp only [List.mapM_cons, Option.bind_eq_bind, Option.pure_def, Option.bind_eq_some_iff] at h
    obtain ⟨y, hy, r', hr, h⟩ := h
    simp at h; subst h
    obtain ⟨i1, i2⟩ := mapM_at hr
    refine ⟨by simp [i1], fun j x hx => ?_⟩
    cases j with
    | zero => simp at hx; subst hx; exact ⟨y, rfl, hy⟩
    | succ j => simpa using i2 j x (by simpa using hx)

theorem spot_none {w : World} {a : Addr} {v : Value} (h : w.cell? a = some v) : a.spot = none := by
  unfold World.cell? at h
  cases hs : a.spot with
  | none => rfl
  | some s =>
    rw [hs] at h
    split at h <;> simp_all

theorem cells?_at {w : World} {base n : Nat} {a : Addr} {cs : List Value} (h : w.cells? base a n = some cs) : cs.length = n ∧ ∀ (j : Nat) (v : Value), cs[j]? = some v → w.cell? (a.add j) = some v := by
  unfold World.cells? at h
  split at h
  · obtain ⟨h1, h2⟩ := mapM_at h
    simp at h1
    refine ⟨h1.symm, fun j v hj => ?_⟩
    have hlt : j < n := by rw [h1]; exact (List.getElem?_eq_some_iff.1 hj).1
    obtain ⟨y, e1, e2⟩ := h2 j j (by simp [hlt])
    rw [hj] at e1; simp at e1; subst e1; exact e2
  · cases h

/-- a list chosen index by index -/
theorem choose_list {α : Type} {Q : Nat → α → Prop} : ∀ (n : Nat), (∀ j, j < n → ∃ v, Q j v) → ∃ vs : List α, vs.length = n ∧ ∀ (j : Nat) (v : α), vs[j]? = some v → Q j v
  | 0, _ => ⟨[], rfl, by simp⟩
  | n + 1, h => by
    obtain ⟨vs, hl, hv⟩ := choose_list n (fun j hj => h j (by omega))
    obtain ⟨v, hq⟩ := h n (by omega)
    refine ⟨vs ++ [v], by simp [hl], fun j u hu => ?_⟩
    by_cases hj : j < vs.length
    · rw [List.getElem?_append_left hj] at hu; exact hv j u hu
    · rw [List.getElem?_append_right (by omega)] at hu
      by_cases e : j = n
      · subst e; rw [hl] at hu; simp at hu; subst hu; exact hq
      · rw [List.getElem?_eq_none (by simp; omega)] at hu; cases hu

theorem pieces {P : Program} {w : World} {n : Nat} {cs : List Value} : ∀ (l : List (Nat × TypeId)) (off tot : Nat), consec P off l = some tot → tot ≤ cs.length → (∀ p ∈ l, ∃ ts, RepL w ((cs.drop p.1).take (P.cellsOf p.2)) ts ∧ WT P n p.2 ts) →
    off ≤ tot ∧ ∃ ts : List T, ts.length = tot - off ∧ (∀ (j : Nat) (v : Value) (x : T), cs[off + j]? = some v → ts[j]? = some x → RepT allFix w v x) ∧ ∀ p ∈ l, off ≤ p.1 ∧ WT P n p.2 ((ts.drop (p.1 - off)).take (P.cellsOf p.2))
  | [], off, tot, hc, _, _ => by simp [consec] at hc; subst hc; exact ⟨Nat.le_refl _, [], by simp, by simp, by simp⟩
  | (o, t) :: r, off, tot, hc, hl, hp => by
    simp only [consec] at hc
    split at hc
    · rename_i e; subst e
      obtain ⟨h1, ts, h2, h3, h4⟩ := pieces r (o + P.cellsOf t) tot hc hl (fun p hp' => hp p (List.mem_cons_of_mem _ hp'))
      obtain ⟨us, k1, k2⟩ := hp (o, t) (by simp)
      have hul : us.length = P.cellsOf t := by rw [← k1.1]; simp; omega
      refine ⟨by omega, us ++ ts, by simp [hul, h2]; omega, fun j v x hv hx => ?_, fun p hpm => ?_⟩
      · by_cases hj : j < us.length
        · rw [List.getElem?_append_left hj] at hx
          refine k1.2 j v x ?_ hx
          simp only
          rw [List.getElem?_take, if_pos (by omega), List.getElem?_drop]; exact hv
        · rw [List.getElem?_append_right (by omega)] at hx
          refine h3 (j - us.length) v x ?_ hx
          have : o + P.cellsOf t + (j - us.length) = o + j := by omega
          rw [this]; exact hv
      · rcases List.mem_cons.1 hpm with e | e
        · subst e
          refine ⟨Nat.le_refl _, ?_⟩
          simp only [Nat.sub_self, List.drop_zero]
          rw [List.take_append_of_le_length (by omega), List.take_of_length_le (by omega)]
          exact k2
        · obtain ⟨g1, g2⟩ := h4 p e
          refine ⟨by omega, ?_⟩
          have : p.1 - o = us.length + (p.1 - (o + P.cellsOf t)) := by omega
          rw [this, List.drop_append, List.drop_eq_nil_of_le (by omega)]
          simpa using g2
    · cases hc

section
variable {H : Type} {enc : TypeId × Value → H} {P : Program} {w : World} {sp : Nat → Bool} {held : Bool} {S : List TypeId}

theorem weightsAll_of {e : TypeId} {r : Nat → Bool} : ∀ (l : List (DataW H)), (DataW.weightsAll P e l).all r = true → ∀ d ∈ l, (d.weights P e).all r = true
  | [], _, d, h => by cases h
  | x :: l, h, d, hd => by
    simp only [DataW.weightsAll, List.all_append, Bool.and_eq_true] at h
    cases hd with
    | head => exact h.1
    | tail _ hd => exact weightsAll_of l h.2 d hd
theorem weightsEach_of {r : Nat → Bool} : ∀ (ts : List TypeId) (l : List (DataW H)), (DataW.weightsEach P ts l).all r = true → ∀ (j : Nat) t d, ts[j]? = some t → l[j]? = some d → (d.weights P t).all r = true
  | [], l, _, j, t, d, h, _ => by simp at h
  | t :: ts, [], _, j, t', d, _, h => by simp at h
  | t :: ts, x :: l, h, j, t', d, h1, h2 => by
    simp only [DataW.weightsEach, List.all_append, Bool.and_eq_true] at h
    cases j with
    | zero => simp at h1 h2; subst h1; subst h2; exact h.1
    | succ j => exact weightsEach_of ts l h.2 j t' d (by simpa using h1) (by simpa using h2)
theorem trod_rep (hp : plainT P S = true) : ∀ (n : Nat) (t : TypeId) (cs : List Value) (d : DataW H) (ps : List MemPlace), t ∈ S → DataW.trod enc P w 0 sp held n t cs = some (d, ps) → (d.weights P t).all (· ≤ reachBytes) = true → ∃ ts, RepL w cs ts ∧ WT P n t ts
  | 0, t, cs, d, ps, _, h, _ => by simp [DataW.trod] at h
  | n + 1, t, cs, d, ps, ht, h, hwt => by
    have hpt := List.all_eq_true.1 hp t ht
    simp only [WT]
    cases hu : P.underlying t with
    | none => rw [hu] at hpt; simp at hpt
    | some td =>
      rw [hu] at hpt
      cases td with
      | bool =>
        rcases cs with _ | ⟨v, _ | ⟨v2, r⟩⟩ <;> try (simp [DataW.trod, hu] at h; done)
        cases v <;> simp [DataW.trod, hu] at h
        rename_i b
        exact ⟨[.bool b], RepL.one (.bool b), b, rfl⟩
      | int k =>
        rcases cs with _ | ⟨v, _ | ⟨v2, r⟩⟩ <;> try (simp [DataW.trod, hu] at h; done)
        cases v <;> simp [DataW.trod, hu] at h
        rename_i k' x
        obtain ⟨⟨rfl, h2⟩, _⟩ := h
        exact ⟨[.int k' x], RepL.one (.int _ _), x, rfl, h2⟩
      | string =>
        rcases cs with _ | ⟨v, _ | ⟨v2, r⟩⟩ <;> try (simp [DataW.trod, hu] at h; done)
        cases v <;> simp [DataW.trod, hu] at h
        rename_i s
        exact ⟨[.str s.data.toList], RepL.one (.str _), s.data.toList, rfl, by simpa using h.1⟩
      | slice e =>
        simp only [Bool.and_eq_true, decide_eq_true_eq] at hpt
        have he : e ∈ S := by simpa using hpt.1
        rcases cs with _ | ⟨v, _ | ⟨v2, r⟩⟩ <;> try (simp [DataW.trod, hu] at h; done)
        cases v <;> try (simp [DataW.trod, hu] at h; done)
        rename_i a len cap
        cases a with
        | none =>
          have h0 : len = 0 ∧ cap = 0 := by
            cases len <;> cases cap <;> simp_all [DataW.trod]
          obtain ⟨rfl, rfl⟩ := h0
          exact ⟨[.lst []], RepL.one .nil, [], rfl, by simp, by simp, by simp⟩
        | some a =>
          simp only [DataW.trod, hu] at h
          split at h
          · rename_i hcond
            simp only [Option.bind_eq_some_iff] at h
            obtain ⟨elems, hel, hrest⟩ := h
            obtain ⟨hl, hat⟩ := mapM_at hel
            simp at hl
            rw [Option.map_eq_some_iff] at hrest
            obtain ⟨rest, _, hde⟩ := hrest
            simp only [Prod.mk.injEq] at hde
            rw [← hde.1] at hwt
            simp only [DataW.weights, hu, List.all_cons, List.all_append, Bool.and_eq_true, decide_eq_true_eq, List.length_map] at hwt
            have hreach : len * P.bytesOf e ≤ reachBytes := by
              rw [hl]
              exact Nat.le_trans (Nat.mul_le_mul_right _ (Nat.le_add_right _ _)) hwt.1
            have hone : ∀ i, i < len → ∃ q : List Value × List T, w.cells? 0 (a.add (i * P.cellsOf e)) (P.cellsOf e) = some q.1 ∧ RepL w q.1 q.2 ∧ WT P n e q.2 := by
              intro i hi
              obtain ⟨y, hye, hy⟩ := hat i i (by simp [hi])
              simp only [Option.bind_eq_some_iff] at hy
              obtain ⟨c, hc, hy⟩ := hy
              obtain ⟨d', ps'⟩ := y
              obtain ⟨ts, k1, k2⟩ := trod_rep hp n e c d' ps' he hy (weightsAll_of _ hwt.2.1 _ (List.mem_map.2 ⟨(d', ps'), List.mem_of_getElem? hye, rfl⟩))
              exact ⟨(c, ts), hc, k1, k2⟩
            obtain ⟨qs, hql, hq⟩ := choose_list len hone
            have hsz : ∀ (i : Nat) (q : List Value × List T), qs[i]? = some q → q.1.length = P.cellsOf e ∧ q.2.length = P.cellsOf e := by
              intro i q hi
              obtain ⟨h1, h2, _⟩ := hq i q hi
              have := (cells?_at h1).1
              exact ⟨this, by rw [← h2.1]; exact this⟩
            -- the address has no spot, where anything is read
            have hspot : 0 < len → a.spot = none := by
              intro h0
              have hq0 : qs[0]? = some (qs[0]'(by omega)) := by simp
              obtain ⟨h1, _, _⟩ := hq 0 _ hq0
              obtain ⟨e1, e2⟩ := cells?_at h1
              have hlt : 0 < (qs[0]'(by omega)).1.length := by rw [(hsz 0 _ hq0).1]; exact hpt.2
              have := spot_none (e2 0 _ (List.getElem?_eq_getElem hlt))
              simpa [Addr.add] using this
            have hadd : ∀ m, 0 < len → a.add m = ⟨a.block, a.off + m, none⟩ := by
              intro m h0
              have hs := hspot h0
              obtain ⟨b, o, s⟩ := a
              simp at hs; subst hs
              exact add_mk b o m
            refine ⟨[.lst (qs.map (·.2))], RepL.one ?_, qs.map (·.2), rfl, by simpa [hql] using hreach, by simp [hql]; omega, fun c hc => ?_⟩
            · have hlen : len = (qs.map (·.2)).length := by simp [hql]
              rw [hlen]
              refine .lst (some a) cap (P.cellsOf e) (qs.map (·.2)) a.block a.off (fun i j => ((qs.map (·.1)).getD i []).getD j undef) (by rw [← hlen]; exact hcond.2.1) ?_ ?_ ?_ ?_ ?_
              · intro i c hc
                rw [List.getElem?_map, Option.map_eq_some_iff] at hc
                obtain ⟨q, h1, rfl⟩ := hc
                exact (hsz i q h1).2
              · intro i j c x hc hx
                have h0 : 0 < len := by have := (List.getElem?_eq_some_iff.1 hc).1; simp [hql] at this; omega
                have hs := hspot h0
                obtain ⟨b, o, s⟩ := a
                simp at hs; subst hs; rfl
              · intro i j c x hc hx; trivial
              · intro i j c x hc hx
                rw [List.getElem?_map, Option.map_eq_some_iff] at hc
                obtain ⟨q, h1, rfl⟩ := hc
                have h0 : 0 < len := by have := (List.getElem?_eq_some_iff.1 h1).1; omega
                obtain ⟨g1, g2, _⟩ := hq i q h1
                obtain ⟨e1, e2⟩ := cells?_at g1
                have hj : j < q.1.length := by rw [g2.1]; exact (List.getElem?_eq_some_iff.1 hx).1
                have := e2 j _ (List.getElem?_eq_getElem hj)
                rw [hadd _ h0] at this
                rw [add_mk] at this
                rw [this]
                simp [h1, hj]
              · intro i j c x hc hx
                rw [List.getElem?_map, Option.map_eq_some_iff] at hc
                obtain ⟨q, h1, rfl⟩ := hc
                obtain ⟨g1, g2, _⟩ := hq i q h1
                have hj : j < q.1.length := by rw [g2.1]; exact (List.getElem?_eq_some_iff.1 hx).1
                have := g2.2 j _ x (List.getElem?_eq_getElem hj) hx
                simpa [h1, hj] using this
            · rw [List.mem_map] at hc
              obtain ⟨q, h1, rfl⟩ := hc
              obtain ⟨i, hi⟩ := List.mem_iff_getElem?.1 h1
              exact (hq i q hi).2.2
          · cases h
      | struct fs =>
        simp only [Bool.and_eq_true, List.all_eq_true, beq_iff_eq] at hpt
        have hh : cs.length = P.cellsOf t ∧ ∃ xs, (fs.toList.mapM fun f => DataW.trod enc P w 0 sp held n f.type ((cs.drop f.offset).take (P.cellsOf f.type))) = some xs ∧ d = .agg (xs.map (·.1)) := by
          have h' := h
          simp only [DataW.trod, hu] at h'
          split at h'
          · rename_i hc
            simp only [Option.map_eq_some_iff] at h'
            obtain ⟨xs, hxs, hd⟩ := h'
            exact ⟨hc, xs, hxs, by simp only [Prod.mk.injEq] at hd; exact hd.1.symm⟩
          · cases h'
        obtain ⟨hlen, xs, hxs, rfl⟩ := hh
        obtain ⟨hl, hat⟩ := mapM_at hxs
        simp only [DataW.weights, hu] at hwt
        obtain ⟨_, ts, g1, g2, g3⟩ := pieces (n := n) (w := w) (cs := cs) _ 0 _ hpt.2 (by omega) (fun p hpm => by
          rw [List.mem_map] at hpm
          obtain ⟨f, hf, rfl⟩ := hpm
          obtain ⟨j, hj⟩ := List.mem_iff_getElem?.1 hf
          obtain ⟨y, hye, hy⟩ := hat j f hj
          obtain ⟨d', ps'⟩ := y
          exact trod_rep hp n f.type _ d' ps' (by simpa using hpt.1 f hf) hy (weightsEach_of _ _ hwt j f.type d' (by simp [hj]) (by simp [hye])))
        refine ⟨ts, ⟨by omega, fun j v x hv hx => g2 j v x (by simpa using hv) hx⟩, by omega, fun f hf => ?_⟩
        have := (g3 (f.offset, f.type) (List.mem_map.2 ⟨f, hf, rfl⟩)).2
        simpa using this
      | array m e =>
        simp only [Bool.and_eq_true, beq_iff_eq] at hpt
        have hh : cs.length = P.cellsOf t ∧ ∃ xs, ((List.range m).mapM fun i => DataW.trod enc P w 0 sp held n e ((cs.drop (i * P.cellsOf e)).take (P.cellsOf e))) = some xs ∧ d = .agg (xs.map (·.1)) := by
          have h' := h
          simp only [DataW.trod, hu] at h'
          split at h'
          · rename_i hc
            simp only [Option.map_eq_some_iff] at h'
            obtain ⟨xs, hxs, hd⟩ := h'
            exact ⟨hc, xs, hxs, by simp only [Prod.mk.injEq] at hd; exact hd.1.symm⟩
          · cases h'
        obtain ⟨hlen, xs, hxs, rfl⟩ := hh
        obtain ⟨hl, hat⟩ := mapM_at hxs
        simp only [DataW.weights, hu] at hwt
        obtain ⟨_, ts, g1, g2, g3⟩ := pieces (n := n) (w := w) (cs := cs) _ 0 _ hpt.2 (by omega) (fun p hpm => by
          rw [List.mem_map] at hpm
          obtain ⟨i, hi, rfl⟩ := hpm
          obtain ⟨y, hye, hy⟩ := hat i i (by simp [List.mem_range.1 hi])
          obtain ⟨d', ps'⟩ := y
          exact trod_rep hp n e _ d' ps' (by simpa using hpt.1) hy (weightsAll_of _ hwt _ (List.mem_map.2 ⟨(d', ps'), List.mem_of_getElem? hye, rfl⟩)))
        refine ⟨ts, ⟨by omega, fun j v x hv hx => g2 j v x (by simpa using hv) hx⟩, by omega, fun i hi => ?_⟩
        have := (g3 (i * P.cellsOf e, e) (List.mem_map.2 ⟨i, List.mem_range.2 hi, rfl⟩)).2
        simpa using this
      | _ => simp at hpt

/-- an argument as an abstract value -/
def argV (P : Program) (t : TypeId) (ts : List T) : V := if isAggT P t then .agg (ts.map V.t) else .t (ts.headD .nilp)

/-- the world that a law is called in -/
def L.all (w : World) : L := { lab := allFix, fro := fun _ => 0, nxt := 0, w := w }

theorem RelS.all (w : World) : RelS (L.all w) ⟨[], 0⟩ := ⟨by simp [aget], fun b b' k h => by simp [L.all] at h, fun _ _ => rfl, fun b k h => by simp [L.all] at h, fun _ _ => rfl⟩

theorem arg_rel (hp : plainT P S = true) {base : Nat} {t : TypeId} {v : Value} {d : DataW H} {ps : List MemPlace} (ht : t ∈ S) (hok : Value.okWide P w .any base t v) (h : DataW.Trod enc P w 0 sp held t v d ps) (hwt : (d.weights P t).all (· ≤ reachBytes) = true) :
    ∃ n ts, WT P n t ts ∧ RelV (L.all w) v (argV P t ts) := by
  obtain ⟨n, hn⟩ := h
  obtain ⟨ts, h1, h2⟩ := trod_rep hp n t _ d ps ht hn hwt
  refine ⟨n, ts, h2, ?_⟩
  have hpt := List.all_eq_true.1 hp t ht
  unfold argV
  by_cases hag : isAggT P t = true
  · simp only [hag, if_true]
    have : ∃ cs, v = .agg cs := by
      unfold isAggT at hag
      unfold Value.okWide at hok
      cases hu : P.underlying t with
      | none => rw [hu] at hag; simp at hag
      | some td => rw [hu] at hag hok; cases td <;> simp at hag <;> exact ⟨_, hok.choose_spec.1⟩
    obtain ⟨cs, rfl⟩ := this
    refine .agg (by simpa [Value.cells] using h1.1) fun j u c hj hc => ?_
    rw [List.getElem?_map, Option.map_eq_some_iff] at hc
    obtain ⟨x, hx, rfl⟩ := hc
    exact .t (h1.2 j u x (by simpa [Value.cells] using hj) hx)
  · simp only [hag, if_false, Bool.false_eq_true]
    have hcells : v.cells = #[v] := by
      unfold isAggT at hag
      unfold Value.okWide at hok
      cases hu : P.underlying t with
      | none => rw [hu] at hpt; simp at hpt
      | some td =>
        rw [hu] at hag hok hpt
        cases td <;> simp at hag hpt <;> simp only [Cell.okWide, Cell.ok, hu] at hok <;> cases v <;> first | rfl | (exact hok.elim)
    have hcl : ts.length = 1 := by rw [← h1.1, hcells]; rfl
    obtain ⟨x, rfl⟩ : ∃ x, ts = [x] := by
      match ts, hcl with
      | [x], _ => exact ⟨x, rfl⟩
    exact .t (h1.2 0 v x (by rw [hcells]; rfl) rfl)

/-- arguments one by one -/
inductive WTs (P : Program) : List TypeId → List V → Prop
  | nil : WTs P [] []
  | cons {t : TypeId} {ts : List TypeId} {n : Nat} {xs : List T} {vs : List V} (h : WT P n t xs) (r : WTs P ts vs) : WTs P (t :: ts) (argV P t xs :: vs)

theorem args_rel (hp : plainT P S = true) {base : Nat} : ∀ (ts : List TypeId) (args : List Value) (ds : List (DataW H)) (ps : List MemPlace), (∀ t ∈ ts, t ∈ S) → (∀ (j : Nat) t v, ts[j]? = some t → args[j]? = some v → Value.okWide P w .any base t v) →
    DataW.TrodAll enc P w 0 sp held ts args ds ps → (DataW.weightsEach P ts ds).all (· ≤ reachBytes) = true → ∃ vs, WTs P ts vs ∧ args.length = vs.length ∧ ∀ (j : Nat) (v : Value) (x : V), args[j]? = some v → vs[j]? = some x → RelV (L.all w) v x
  | [], [], [], ps, _, _, _, _ => ⟨[], .nil, rfl, by simp⟩
  | t :: ts, v :: args, d :: ds, ps, hS, hok, ⟨p, q, h1, h2, _⟩, hwt => by
    simp only [DataW.weightsEach, List.all_append, Bool.and_eq_true] at hwt
    obtain ⟨vs, k1, k2, k3⟩ := args_rel hp ts args ds q (fun t ht => hS t (List.mem_cons_of_mem _ ht)) (fun j t v a b => hok (j + 1) t v (by simpa using a) (by simpa using b)) h2 hwt.2
    obtain ⟨n, xs, g1, g2⟩ := arg_rel hp (hS t (by simp)) (hok 0 t v rfl rfl) h1 hwt.1
    refine ⟨argV P t xs :: vs, .cons g1 k1, by simp [k2], fun j u x hu hx => ?_⟩
    cases j with
    | zero => simp at hu hx; subst hu; subst hx; exact g2
    | succ j => exact k3 j u x (by simpa using hu) (by simpa using hx)
  | [], _ :: _, _, _, _, _, h, _ => by simp [DataW.TrodAll] at h
  | [], [], _ :: _, _, _, _, h, _ => by simp [DataW.TrodAll] at h
  | _ :: _, [], _, _, _, _, h, _ => by simp [DataW.TrodAll] at h
  | _ :: _, _ :: _, [], _, _, _, h, _ => by simp [DataW.TrodAll] at h

theorem trodAll_stays (hl : laidOutB P = true) {W W' : World} (hb : Below W.heap.size W W') {sp' : Nat → Bool} : ∀ (ts : List TypeId) (vs : List Value) (ds : List (DataW H)) (ps : List MemPlace), (∀ t ∈ ts, P.readableRec t = true ∧ t < P.types.size) → DataW.TrodAll enc P W 0 (fun _ => true) true ts vs ds ps →
    (∀ p ∈ ps, p.block < W.heap.size) → (∀ p ∈ ps, sp' p.block = true) → DataW.TrodAll enc P W' 0 sp' true ts vs ds ps
  | [], [], [], _, _, h, _, _ => h
  | t :: ts, v :: vs, d :: ds, _, hT, ⟨p, q, h1, h2, e⟩, hlt, hs => by
    subst e
    refine ⟨p, q, WideElems.Trod_stays hl (hT t (by simp)).1 (hT t (by simp)).2 h1 (fun x hx => hb.same (hlt x (List.mem_append_left _ hx))) (fun x hx => hs x (List.mem_append_left _ hx)), ?_, rfl⟩
    exact trodAll_stays hl hb ts vs ds q (fun t ht => hT t (List.mem_cons_of_mem _ ht)) h2 (fun x hx => hlt x (List.mem_append_right _ hx)) (fun x hx => hs x (List.mem_append_right _ hx))
  | [], _ :: _, _, _, _, h, _, _ => by simp [DataW.TrodAll] at h
  | [], [], _ :: _, _, _, h, _, _ => by simp [DataW.TrodAll] at h
  | _ :: _, [], _, _, _, h, _, _ => by simp [DataW.TrodAll] at h
  | _ :: _, _ :: _, [], _, _, h, _, _ => by simp [DataW.TrodAll] at h

end

section
variable {H : Type} {enc : TypeId × Value → H} {P : Program}
theorem post_of_below {f : Func} {s : ChangeSpec} {apart fresh handsOn again : Bool} {W W' : World} {args : Array Value} {v : Value} {ds gs : List (DataW H)} {before pa pv : List MemPlace}
    (hW : DataW.Whole enc P f.params.toList s.vars apart W args.toList ds gs before)
    (hres : ∀ (b : Nat) (sp : Nat → Bool) (hd : Bool), DataW.TrodAll enc P W' b sp hd f.resultTypes.toList (v.resultList f.resultTypes.size) (s.fn H (ds ++ gs)).results [])
    (hargs : ∀ sp : Nat → Bool, (∀ p ∈ before, sp p.block = true) → DataW.TrodAll enc P W' 0 sp true f.params.toList args.toList (s.fn H (ds ++ gs)).args pa)
    (hvars : ∀ sp : Nat → Bool, (∀ p ∈ before, sp p.block = true) → DataW.TrodVars enc P W' sp s.vars (s.fn H (ds ++ gs)).vars pv)
    (hps : before = pa ++ pv) (hb : Below W.heap.size W W')
    (hok : ∀ (j : Nat) (t : TypeId) (r : Value), f.resultTypes[j]? = some t → (v.resultList f.resultTypes.size)[j]? = some r → Value.okWide P W' .any 0 t r) :
    s.post enc P f apart fresh handsOn again W args v W' := by
  have hlt : ∀ p ∈ before, p.block < W.heap.size := fun p hp => hW.lt p hp
  have hold : ∀ p ∈ before, (fun b => decide (b < W.heap.size)) p.block = true := fun p hp => by simpa using hlt p hp
  refine ⟨ds, gs, before, [], pa, pv, hW, hres _ _ _, hargs _ hold, hvars _ hold, World.keptBut_mono (fun p hp => ⟨hp, ?_⟩) (hb.frame (· ∈ before)), fun _ => ?_⟩
  · rw [hps, List.mem_append] at hp
    exact Or.inr hp
  · obtain ⟨_, _, _, _, _, hz, hn⟩ := hW
    refine ⟨hok, _, _, ([] ++ pa) ++ pv, ⟨[] ++ pa, pv, trodAll_append (hargs _ (fun _ _ => rfl)) (hres _ _ _), hvars _ (fun _ _ => rfl), rfl, ?_, ?_⟩, ?_⟩
    · intro b off hp
      have hin : MemPlace.cell b off ∈ before := by rw [hps]; simpa using hp
      rw [hb.frozen (hlt _ hin)]
      exact hz b off hin
    · intro ha
      have := hn ha
      rw [hps] at this
      simpa using this
    · intro p hp _
      rw [hps]
      simpa using hp

/-- A law's contract, as its row wants it. -/
theorem law_contract {S : List TypeId} {f : FuncId} {fn : Func} {s : ChangeSpec} {tb : TypeId} {apart fresh handsOn again : Bool} (hp : plainT P S = true) (hl : laidOutB P = true) (hT : ∀ t ∈ fn.params.toList, t ∈ S ∧ P.readableRec t = true ∧ t < P.types.size)
    (hrt : fn.resultTypes = #[tb]) (hb : P.underlying tb = some .bool) (hv : s.vars = []) (hs : ∀ ds : List (DataW H), ds.length = fn.params.size → s.fn H ds = { results := [.lit (.bool true)], args := ds })
    (W : World) (base : Nat) (args : Array Value) (ds gs : List (DataW H)) (before : List MemPlace)
    (hval : ∀ (j : Nat) t v, fn.params[j]? = some t → args[j]? = some v → Value.okWide P W .any base t v)
    (hW : DataW.Whole enc P fn.params.toList s.vars apart W args.toList ds gs before)
    (hwt : (DataW.weightsEach P (fn.params.toList ++ s.plain.varTypes P) (ds ++ gs)).all (· ≤ reachBytes) = true)
    (hok : ∀ vs, WTs P fn.params.toList vs → FnOk P f vs ⟨[], 0⟩ { v := .t (.bool true) }) :
    Calls P f args W fun e W' => ∃ v, e = .returned v ∧ s.post enc P fn apart fresh handsOn again W args v W' := by
  have hW' := hW
  obtain ⟨p, q, hA, hV, rfl, hfz, hnd⟩ := hW
  rw [hv] at hV
  obtain ⟨rfl, rfl⟩ := trodVars_none hV
  have hdl : ds.length = fn.params.size := by
    have : ∀ (ts : List TypeId) (vs : List Value) (ds : List (DataW H)) (ps : List MemPlace), DataW.TrodAll enc P W 0 (fun _ => true) true ts vs ds ps → ds.length = ts.length := by
      intro ts
      induction ts with
      | nil => intro vs ds ps h; cases vs <;> cases ds <;> simp_all [DataW.TrodAll]
      | cons t ts ih =>
        intro vs ds ps h
        cases vs with
        | nil => simp [DataW.TrodAll] at h
        | cons v vs =>
          cases ds with
          | nil => simp [DataW.TrodAll] at h
          | cons d ds => obtain ⟨p, q, _, h2, _⟩ := h; simp [ih vs ds q h2]
    simpa using this _ _ _ _ hA
  have hwt' : (DataW.weightsEach P fn.params.toList ds).all (· ≤ reachBytes) = true := by
    have happ : ∀ (ts us : List TypeId) (ds es : List (DataW H)), ts.length = ds.length → DataW.weightsEach P (ts ++ us) (ds ++ es) = DataW.weightsEach P ts ds ++ DataW.weightsEach P us es := by
      intro ts
      induction ts with
      | nil => intro us ds es h; cases ds with
        | nil => simp [DataW.weightsEach]
        | cons d ds => simp at h
      | cons t ts ih => intro us ds es h; cases ds with
        | nil => simp at h
        | cons d ds => simp only [List.cons_append, DataW.weightsEach, List.append_assoc]; rw [ih us ds es (by simpa using h)]
    rw [happ _ _ _ _ (by simpa using hdl.symm), List.all_append, Bool.and_eq_true] at hwt
    exact hwt.1
  obtain ⟨vs, k1, k2, k3⟩ := args_rel hp _ _ _ _ (fun t ht => (hT t ht).1) (fun j t v a b => hval j t v (by simpa using a) (by simpa using b)) hA hwt'
  refine ((hok vs k1).2 (L.all W) args (RelS.all W) rfl (by simpa using k2) (fun j v x a b => k3 j v x (by simpa using a) b)).mono fun e W' he => ?_
  obtain ⟨v, Λ', rfl, rfl, g1, g2, g3, g4⟩ := he
  have hvt := g4.repT.bool_inv
  subst hvt
  have hbel : Below W.heap.size W Λ'.w := ⟨g1.fr.os, g1.fr.tape, g1.fr.output, g1.fr.size, fun b hb => (g1.fr.fix b hb none rfl).2⟩
  have hsf := hs (ds ++ []) (by simpa using hdl)
  refine ⟨_, rfl, post_of_below (pa := p) (pv := []) (by simpa using hW') ?_ ?_ ?_ (by simp) hbel ?_⟩
  · intro b sp hd
    rw [hsf, hrt]
    exact ⟨[], [], ⟨1, by simp [DataW.trod, hb, Value.cells]⟩, rfl, rfl⟩
  · intro sp hsp
    rw [hsf]
    have hlt : ∀ x ∈ p, x.block < W.heap.size := fun x hx => hW'.lt x (by simpa using hx)
    simpa using trodAll_stays hl hbel _ _ _ _ (fun t ht => (hT t ht).2) hA hlt (fun x hx => hsp x (by simpa using hx))
  · intro sp hsp
    rw [hsf, hv]; rfl
  · intro j t r hj hr
    rw [hrt] at hj
    cases j with
    | zero =>
      simp at hj; subst hj
      simp [hrt, Value.resultList] at hr; subst hr
      simp [Value.okWide, Cell.okWide, Cell.ok, hb]
    | succ j => simp at hj
end
end Go.GB
