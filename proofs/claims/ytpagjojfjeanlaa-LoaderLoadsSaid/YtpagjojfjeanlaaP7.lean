/-
  YtpagjojfjeanlaaP7: lemmas of this proof (part 7). No conditions.
-/
import Derived.Test.YtpagjojfjeanlaaP6
import Derived.Test.YtpagjojfjeanlaaP4

/-
  L35K: chapter 35: the results of a batch.
-/
namespace Go.GB.C35
open Go.GB
set_option linter.unusedSimpArgs false
set_option linter.unusedVariables false
set_option maxRecDepth 100000
set_option maxHeartbeats 8000000
variable {P : Program}
def upd (ps : List Pl) (i : Nat) (v : Val) : List Pl := ps.modify i fun p => ⟨p.rep, v, true⟩
def setR : List Pl → Nat → List Val → List Pl
  | ps, _, [] => ps
  | ps, i, v :: r => setR (upd ps i v) (i + 1) r
theorem pl_upd (ps : List Pl) (i : Nat) (v : Val) : pl (upd ps i v) = pl ps := by simp [pl, upd]
theorem pl_setR : ∀ (rs : List Val) (ps : List Pl) (i : Nat), pl (setR ps i rs) = pl ps
  | [], _, _ => rfl
  | v :: r, ps, i => by simp only [setR]; rw [pl_setR r, pl_upd]
theorem upd_ok {ps : List Pl} {i : Nat} {v : Val} (hv : v.Ok) (h : ∀ p, p ∈ ps → p.Ok) : ∀ p, p ∈ upd ps i v → p.Ok := by
  intro p hp
  obtain ⟨j, hj⟩ := List.getElem?_of_mem hp
  simp only [upd, List.getElem?_modify] at hj
  cases hq : ps[j]? with
  | none => rw [hq] at hj; simp at hj
  | some q =>
    rw [hq] at hj
    have hqk := h q (List.mem_of_getElem? hq)
    simp only [Option.map_eq_map, Option.map_some, Option.some.injEq] at hj
    split at hj
    · subst hj; exact ⟨hqk.r, hv⟩
    · subst hj; exact hqk
theorem upd_cs {ps : List Pl} {i : Nat} {v : Val} {p : Pl} {x y : List V} (h : ps[i]? = some p) (hy : y = (Pl.mk p.rep v true).cs) : ((ps.map Pl.cs).set i x).set i y = (upd ps i v).map Pl.cs := by
  subst hy
  rw [List.set_set]
  apply List.ext_getElem?
  intro j
  simp only [upd, List.getElem?_map, List.getElem?_modify, List.getElem?_set, List.length_map]
  by_cases hj : i = j
  · subst hj
    obtain ⟨this, rfl⟩ := List.getElem?_eq_some_iff.1 h
    simp [this]
  · simp [hj]
theorem updLe {m m' : Nat} {ps : List Pl} {i : Nat} {v : Val} {p : Pl} {x y : List V} (h : ps[i]? = some p) (hy : y = (Pl.mk p.rep v true).cs) : LeO m m' (.fobs (((ps.map Pl.cs).set i x).set i y)) (.fobs ((upd ps i v).map Pl.cs)) := by
  rw [upd_cs h hy]; exact AObj.leSame (pls_bd _ _)
theorem done_ok (H : Pr P) (m c s f : Int) (nx lo : Nat) (tk : List Int) (ps : List Pl) (rs : List Val) (es : List (List T × V)) (hr0 : 0 < rs.length) (hrs : ∀ v, v ∈ rs → v.Ok) (hrl : rs.length < 1000000) (hpl : ps.length < 1000000) (hlo : lo + rs.length ≤ ps.length) (hpo : ∀ p, p ∈ ps → p.Ok) (hk : keysOk [.int .i64] es = true) (hg : mget [.int .i64 f] es = some (.ptr 4 0)) (hb : ∀ k, 9 ≤ k → V.bds k (es.map (·.2)) = true) : FnOk P 18 [.ptr 1 0, .t (.int .i64 f), .t (.lst (rs.map Val.enc))] ⟨[(0, .map false es none), (1, .cells [.t (.int .i64 m), .mp 0, .t (.int .i64 c), .t (.int .i64 s)]), (3, .map false (openE 5 lo rs.length) none), (4, .cells [.own 8 1 (tk.map nE), .gsl 7 (pl ps).length 0 (pl ps).length 1, .t (.int .i64 nx), .mp 3]), (5, .fobs (ps.map Pl.cs)), (7, .gro (pl ps).length (gE (pE 5) (pl ps))), (8, .arr tk.length)], 9⟩ { v := .t (.int .i64 0), ob := [(3, .map false [] none), (4, .cells [.own 8 1 (tk.map nE), .gsl 7 (pl (setR ps lo rs)).length 0 (pl (setR ps lo rs)).length 1, .t (.int .i64 (nx : Nat)), .mp 3]), (5, .fobs ((setR ps lo rs).map Pl.cs)), (7, .gro (pl (setR ps lo rs)).length (gE (pE 5) (pl (setR ps lo rs))))], n := 0, rd := true } := by
  have hsa : stoBd 9 [(0, .map false es none), (1, .cells [.t (.int .i64 m), .mp 0, .t (.int .i64 c), .t (.int .i64 s)]), (3, .map false (openE 5 lo rs.length) none), (4, .cells [.own 8 1 (tk.map nE), .gsl 7 (pl ps).length 0 (pl ps).length 1, .t (.int .i64 nx), .mp 3]), (5, .fobs (ps.map Pl.cs)), (7, .gro (pl ps).length (gE (pE 5) (pl ps))), (8, .arr tk.length)] = true := (by repeat' (first | exact (rfl : stoBd _ [] = true) | refine stoBd_cons (Nat.le_of_ble_eq_true rfl) ?_ ?_ | exact (by first | rfl | exact hb _ (Nat.le_of_ble_eq_true rfl) | exact hob _ (Nat.le_of_ble_eq_true rfl) | (refine open_bd ?_ _ _; exact Nat.le_of_ble_eq_true rfl) | exact pls_bd _ _ | (refine gE_bd ?_ _; exact Nat.le_of_ble_eq_true rfl))))
  have hne : rs ≠ [] := by rintro rfl; simp at hr0
  refine FnOk.run H.i18 H.mixed rfl rfl ?_
  refine fR rfl ?_
  refine Mid.callS (none_ga H m c s _ _ hsa) rfl rfl hsa rfl ?_
  refine fM rfl ?_
  refine Run.condF rfl rfl rfl ?_
  refine fR rfl ?_
  refine Mid.lookV (.ptr 4 0) rfl rfl rfl rfl hk (by rw [hg]; rfl) rfl ?_
  refine fM rfl ?_
  refine Mid.lookVG (gc := true) (.ptr 4 0) rfl rfl rfl rfl rfl hk (by rw [hg]; rfl) ⟨rfl, trivial⟩ ⟨rfl, trivial⟩ rfl ?_
  refine fM rfl ?_
  refine Mid.ungd rfl rfl rfl ?_
  refine Mid.lenmV rs.length rfl rfl (open_len _ _ _) rfl ?_
  refine fM rfl ?_
  refine Run.condF rfl rfl (by simp [hne]) ?_
  refine fR rfl ?_
  refine Mid.lookV (.ptr 4 0) rfl rfl rfl rfl hk (by rw [hg]; rfl) rfl ?_
  refine fM rfl ?_
  refine lM rfl rfl rfl ?_
  refine fM rfl ?_
  refine Mid.lenmV rs.length rfl rfl (open_len _ _ _) rfl ?_
  refine fM rfl ?_
  refine Run.condF rfl rfl (by simp) ?_
  refine fR rfl ?_
  refine lM rfl rfl rfl ?_
  refine fM rfl ?_
  refine rList rs (fun i (B : List Pl) => { env := [(7, .ptr 4 0), (48, .t (.lst (rs.map Val.enc))), (49, .t (.int .i64 rs.length)), (50, .t (.int .i64 i))], s := ⟨[(0, .map false es none), (1, .cells [.t (.int .i64 m), .mp 0, .t (.int .i64 c), .t (.int .i64 s)]), (3, .map false (openE 5 lo rs.length) none), (4, .cells [.own 8 1 (tk.map nE), .gsl 7 (pl ps).length 0 (pl ps).length 1, .t (.int .i64 nx), .mp 3]), (5, .fobs (B.map Pl.cs)), (7, .gro (pl ps).length (gE (pE 5) (pl ps))), (8, .arr tk.length)], 9⟩ }) (fun r i B => setR B (lo + i) r = setR ps lo rs ∧ pl B = pl ps ∧ ∀ p, p ∈ B → p.Ok) 9 ps rfl ⟨rfl, rfl, hpo⟩ rfl rfl rfl ?_ ?_ (he := (by repeat' (first | exact trivial | exact LeX.t | exact LeX.top | exact LeX.nilOwn (Nat.le_of_ble_eq_true rfl) (Nat.le_of_ble_eq_true rfl) | exact LeX.ownT | exact LeX.nilT | exact LeX.same rfl | exact LeX.tEq (by simp) | exact LeX.ownEq (by simp) (Nat.le_of_ble_eq_true rfl) | exact LeX.tEq (by congr 1 <;> omega) | exact Or.inr ⟨Nat.le_of_ble_eq_true rfl, Nat.le_of_ble_eq_true rfl, rfl⟩ | refine Or.inl ⟨Nat.le_of_ble_eq_true rfl, _, rfl, ?_⟩ | refine LeO.cells ?_ | exact LeO.arr rfl | exact LeO.arr (by simp) | exact LeO.mE (by first | rfl | simp) (by first | exact Or.inl rfl | exact Or.inr rfl) | exact LeO.cE (by first | rfl | simp) | exact LeXs.cE (by first | rfl | simp) | refine LeO.map (by first | rfl | simp) ?_ (by first | exact Or.inl rfl | exact Or.inr rfl) | exact LeO.iter (by first | rfl | simp) (Nat.le_of_ble_eq_true rfl) | refine LeXs.cons ?_ ?_ | exact LeXs.nil | refine And.intro ?_ ?_))) (hs := (by repeat' (first | exact trivial | refine And.intro ?_ ?_ | exact Or.inr ⟨Nat.le_of_ble_eq_true rfl, Nat.le_of_ble_eq_true rfl, rfl⟩ | exact Or.inl ⟨(Nat.le_of_ble_eq_true rfl), _, rfl, AObj.leSame (by first | rfl | exact hb _ (Nat.le_of_ble_eq_true rfl) | exact hob _ (Nat.le_of_ble_eq_true rfl) | (refine open_bd ?_ _ _; exact Nat.le_of_ble_eq_true rfl) | exact pls_bd _ _ | (refine gE_bd ?_ _; exact Nat.le_of_ble_eq_true rfl))⟩)))
  · rintro B ⟨e1, e2, e3⟩
    simp only [setR] at e1
    refine fR rfl ?_
    refine Run.condF rfl rfl (by simp) ?_
    refine fR rfl ?_
    refine Mid.clrV rfl rfl rfl ?_
    refine fM rfl ?_
    refine Run.fin rfl (EndOk.chg rfl rfl ?_ ?_)
    · exact .t rfl
    · refine ⟨?_, ?_, ?_, ?_, ?_, ?_, ?_, trivial⟩
      · exact .inl ⟨(Nat.le_of_ble_eq_true rfl), _, rfl, AObj.leSame (by first | rfl | exact hb _ (Nat.le_of_ble_eq_true rfl) | exact hob _ (Nat.le_of_ble_eq_true rfl) | (refine open_bd ?_ _ _; exact Nat.le_of_ble_eq_true rfl) | exact pls_bd _ _ | (refine gE_bd ?_ _; exact Nat.le_of_ble_eq_true rfl))⟩
      · exact .inl ⟨(Nat.le_of_ble_eq_true rfl), _, rfl, AObj.leSame (by first | rfl | exact hb _ (Nat.le_of_ble_eq_true rfl) | exact hob _ (Nat.le_of_ble_eq_true rfl) | (refine open_bd ?_ _ _; exact Nat.le_of_ble_eq_true rfl) | exact pls_bd _ _ | (refine gE_bd ?_ _; exact Nat.le_of_ble_eq_true rfl))⟩
      · exact .inl ⟨(Nat.le_of_ble_eq_true rfl), _, rfl, AObj.leSame (by first | rfl | exact hb _ (Nat.le_of_ble_eq_true rfl) | exact hob _ (Nat.le_of_ble_eq_true rfl) | (refine open_bd ?_ _ _; exact Nat.le_of_ble_eq_true rfl) | exact pls_bd _ _ | (refine gE_bd ?_ _; exact Nat.le_of_ble_eq_true rfl))⟩
      · exact .inl ⟨Nat.le_of_ble_eq_true rfl, _, rfl, by rw [pl_setR]; exact AObj.leSame rfl⟩
      · exact .inl ⟨Nat.le_of_ble_eq_true rfl, _, rfl, by rw [← e1]; exact AObj.leSame (pls_bd _ _)⟩
      · exact .inl ⟨Nat.le_of_ble_eq_true rfl, _, rfl, by rw [pl_setR]; exact AObj.leSame (by first | rfl | exact hb _ (Nat.le_of_ble_eq_true rfl) | exact hob _ (Nat.le_of_ble_eq_true rfl) | (refine open_bd ?_ _ _; exact Nat.le_of_ble_eq_true rfl) | exact pls_bd _ _ | (refine gE_bd ?_ _; exact Nat.le_of_ble_eq_true rfl))⟩
      · exact .inl ⟨(Nat.le_of_ble_eq_true rfl), _, rfl, AObj.leSame (by first | rfl | exact hb _ (Nat.le_of_ble_eq_true rfl) | exact hob _ (Nat.le_of_ble_eq_true rfl) | (refine open_bd ?_ _ _; exact Nat.le_of_ble_eq_true rfl) | exact pls_bd _ _ | (refine gE_bd ?_ _; exact Nat.le_of_ble_eq_true rfl))⟩
  · rintro i v r B h1 hi hd ⟨e1, e2, e3⟩ ih
    have hvk := hrs v (List.mem_of_getElem? h1)
    have hlen : B.length = ps.length := by rw [← pl_length B, e2, pl_length]
    obtain ⟨p, hp⟩ : ∃ p, B[lo + i]? = some p := ⟨_, List.getElem?_eq_getElem (by omega)⟩
    have hpc : (B.map Pl.cs)[lo + i]? = some p.cs := by simp [hp]
    refine fR rfl ?_
    refine Run.condT rfl rfl (by simp; omega) ?_
    refine fR rfl ?_
    refine Mid.elemMapC (Val.enc_eq v) rfl rfl rfl h1 rfl rfl ?_
    refine fM rfl ?_
    refine Mid.lookV (.fpt 5 (lo + i) 0) rfl rfl rfl rfl (open_keys _ _ _) (by rw [mget_open hi]; rfl) rfl ?_
    refine fM rfl ?_
    refine Mid.lookV (.fpt 5 (lo + i) 0) rfl rfl rfl rfl (open_keys _ _ _) (by rw [mget_open hi]; rfl) rfl ?_
    refine fM rfl ?_
    refine Mid.call (copy_ok H v hvk) rfl rfl rfl rfl ?_
    refine Mid.fast (f := 2) rfl (by (repeat' (first | exact trivial | exact Bool.not_or_self _ | exact grd1 _ | exact grd2 _ | exact grd3 _ _ | exact grd4 _ _ | refine And.intro ?_ ?_ | exact rfl | (simp; done) | (simp <;> omega))); done) ?_
    refine Mid.stF (os := B.map Pl.cs) (cs := p.cs) rfl rfl hpc rfl rfl (by simp [Pl.cs]) rfl rfl ?_
    refine Mid.fast (f := 2) rfl (by (repeat' (first | exact trivial | exact Bool.not_or_self _ | exact grd1 _ | exact grd2 _ | exact grd3 _ _ | exact grd4 _ _ | refine And.intro ?_ ?_ | exact rfl | (simp; done) | (simp <;> omega))); done) ?_
    have hlt : lo + i < (B.map Pl.cs).length := by simp; omega
    refine Mid.stF rfl rfl (List.getElem?_set_self hlt) rfl rfl (Nat.le_of_ble_eq_true rfl) rfl rfl ?_
    refine fM rfl ?_
    refine aL rfl rfl rfl rfl rfl ?_
    refine fM rfl ?_
    simp only [setR] at e1
    exact rWeak 9 rfl (ih (upd B (lo + i) v) ⟨e1, by rw [pl_upd, e2], upd_ok hvk e3⟩) rfl rfl rfl (he := (by repeat' (first | exact trivial | exact LeX.t | exact LeX.top | exact LeX.nilOwn (Nat.le_of_ble_eq_true rfl) (Nat.le_of_ble_eq_true rfl) | exact LeX.ownT | exact LeX.nilT | exact LeX.same rfl | exact LeX.tEq (by simp) | exact LeX.ownEq (by simp) (Nat.le_of_ble_eq_true rfl) | exact LeX.tEq (by congr 1 <;> omega) | exact Or.inr ⟨Nat.le_of_ble_eq_true rfl, Nat.le_of_ble_eq_true rfl, rfl⟩ | refine Or.inl ⟨Nat.le_of_ble_eq_true rfl, _, rfl, ?_⟩ | refine LeO.cells ?_ | exact LeO.arr rfl | exact LeO.arr (by simp) | exact LeO.mE (by first | rfl | simp) (by first | exact Or.inl rfl | exact Or.inr rfl) | exact LeO.cE (by first | rfl | simp) | exact LeXs.cE (by first | rfl | simp) | refine LeO.map (by first | rfl | simp) ?_ (by first | exact Or.inl rfl | exact Or.inr rfl) | exact LeO.iter (by first | rfl | simp) (Nat.le_of_ble_eq_true rfl) | refine LeXs.cons ?_ ?_ | exact LeXs.nil | refine And.intro ?_ ?_))) (hs := (by repeat' (first | exact trivial | refine And.intro ?_ ?_ | exact Or.inl ⟨(Nat.le_of_ble_eq_true rfl), _, rfl, AObj.leSame (by first | rfl | exact hb _ (Nat.le_of_ble_eq_true rfl) | exact hob _ (Nat.le_of_ble_eq_true rfl) | (refine open_bd ?_ _ _; exact Nat.le_of_ble_eq_true rfl) | exact pls_bd _ _ | (refine gE_bd ?_ _; exact Nat.le_of_ble_eq_true rfl))⟩ | exact Or.inl ⟨(Nat.le_of_ble_eq_true rfl), _, rfl, (updLe hp rfl)⟩)))
end Go.GB.C35


/-
  L35L: chapter 35: the results of tickets; counts.
-/
namespace Go.GB.C35
open Go.GB
set_option linter.unusedSimpArgs false
set_option linter.unusedVariables false
set_option maxRecDepth 100000
set_option maxHeartbeats 8000000
variable {P : Program}
theorem take_ok (H : Pr P) (m c s f nx : Int) (tk : List Int) (ps : List Pl) (op es : List (List T × V)) (n a : Nat) (p : Pl) (htk : tk[n]? = some (a : Int)) (hp : ps[a]? = some p) (hpk : p.Ok) (hpl : ps.length < 1000000) (htl : tk.length < 1000000) (hk : keysOk [.int .i64] es = true) (hg : mget [.int .i64 f] es = some (.ptr 4 0)) (hb : ∀ k, 9 ≤ k → V.bds k (es.map (·.2)) = true) (hob : ∀ k, 9 ≤ k → V.bds k (op.map (·.2)) = true) : FnOk P 19 [.ptr 1 0, .t (.int .i64 f), .t (.int .i64 n)] ⟨[(0, .map false es none), (1, .cells [.t (.int .i64 m), .mp 0, .t (.int .i64 c), .t (.int .i64 s)]), (3, .map false op none), (4, .cells [.own 8 1 (tk.map nE), .gsl 7 (pl ps).length 0 (pl ps).length 1, .t (.int .i64 nx), .mp 3]), (5, .fobs (ps.map Pl.cs)), (7, .gro (pl ps).length (gE (pE 5) (pl ps))), (8, .arr tk.length)], 9⟩ { v := .tup [(if p.ld then p.res else Val.zero).v, .t (.bool p.ld)], rd := true } := by
  have hsa : stoBd 9 [(0, .map false es none), (1, .cells [.t (.int .i64 m), .mp 0, .t (.int .i64 c), .t (.int .i64 s)]), (3, .map false op none), (4, .cells [.own 8 1 (tk.map nE), .gsl 7 (pl ps).length 0 (pl ps).length 1, .t (.int .i64 nx), .mp 3]), (5, .fobs (ps.map Pl.cs)), (7, .gro (pl ps).length (gE (pE 5) (pl ps))), (8, .arr tk.length)] = true := (by repeat' (first | exact (rfl : stoBd _ [] = true) | refine stoBd_cons (Nat.le_of_ble_eq_true rfl) ?_ ?_ | exact (by first | rfl | exact hb _ (Nat.le_of_ble_eq_true rfl) | exact hob _ (Nat.le_of_ble_eq_true rfl) | (refine open_bd ?_ _ _; exact Nat.le_of_ble_eq_true rfl) | exact pls_bd _ _ | (refine gE_bd ?_ _; exact Nat.le_of_ble_eq_true rfl))))
  have hsb : stoBd 10 [(0, .map false es none), (1, .cells [.t (.int .i64 m), .mp 0, .t (.int .i64 c), .t (.int .i64 s)]), (3, .map false op none), (4, .cells [.own 8 1 (tk.map nE), .gsl 7 (pl ps).length 0 (pl ps).length 1, .t (.int .i64 nx), .mp 3]), (5, .fobs (ps.map Pl.cs)), (7, .gro (pl ps).length (gE (pE 5) (pl ps))), (8, .arr tk.length), (9, .cells [.t (.int .i64 0), .t (.int .i64 0), .t (.str []), .nils, .nils])] = true := (by repeat' (first | exact (rfl : stoBd _ [] = true) | refine stoBd_cons (Nat.le_of_ble_eq_true rfl) ?_ ?_ | exact (by first | rfl | exact hb _ (Nat.le_of_ble_eq_true rfl) | exact hob _ (Nat.le_of_ble_eq_true rfl) | (refine open_bd ?_ _ _; exact Nat.le_of_ble_eq_true rfl) | exact pls_bd _ _ | (refine gE_bd ?_ _; exact Nat.le_of_ble_eq_true rfl))))
  have hn : n < tk.length := (List.getElem?_eq_some_iff.1 htk).1
  have ha : a < (pl ps).length := by rw [pl_length]; exact (List.getElem?_eq_some_iff.1 hp).1
  have hpos : 0 < (pl ps).length := by omega
  have hpc : (ps.map Pl.cs)[a]? = some p.cs := by simp [hp]
  refine FnOk.run H.i19 H.mixed rfl rfl ?_
  refine fR rfl ?_
  refine Mid.callS (none_gb H m c s _ _ hsb) rfl rfl hsb rfl ?_
  refine fM rfl ?_
  refine Mid.lookVG (.ptr 4 0) rfl rfl rfl rfl rfl (hk) (by rw [hg]; rfl) (by (repeat' (first | exact trivial | exact Bool.not_or_self _ | exact grd1 _ | exact grd2 _ | exact grd3 _ _ | exact grd4 _ _ | refine And.intro ?_ ?_ | exact rfl | (simp; done) | (simp <;> omega))); done) (by (repeat' (first | exact trivial | exact Bool.not_or_self _ | exact grd1 _ | exact grd2 _ | exact grd3 _ _ | exact grd4 _ _ | refine And.intro ?_ ?_ | exact rfl | (simp; done) | (simp <;> omega))); done) rfl ?_
  refine fM rfl ?_
  refine Mid.lookVG (.ptr 4 0) rfl rfl rfl rfl rfl (hk) (by rw [hg]; rfl) (by (repeat' (first | exact trivial | exact Bool.not_or_self _ | exact grd1 _ | exact grd2 _ | exact grd3 _ _ | exact grd4 _ _ | refine And.intro ?_ ?_ | exact rfl | (simp; done) | (simp <;> omega))); done) (by (repeat' (first | exact trivial | exact Bool.not_or_self _ | exact grd1 _ | exact grd2 _ | exact grd3 _ _ | exact grd4 _ _ | refine And.intro ?_ ?_ | exact rfl | (simp; done) | (simp <;> omega))); done) rfl ?_
  refine fM rfl ?_
  refine lMG rfl rfl rfl rfl ?_
  refine fM rfl ?_
  refine Run.condF rfl rfl (by simp; omega) ?_
  refine fR rfl ?_
  refine Mid.lookV (.ptr 4 0) rfl rfl rfl rfl (hk) (by rw [hg]; rfl) rfl ?_
  refine fM rfl ?_
  refine Mid.elemMap rfl rfl rfl htk rfl rfl ?_
  refine fM rfl ?_
  refine pu rfl ?_
  refine Mid.ldG (a) 0 (sz := 1) rfl rfl (by omega) (by omega) (fun _ => rfl) (pl_some (by rw [pl_length] at ha; exact ha)) rfl rfl ?_
  refine p0 rfl ?_
  refine Mid.fast (f := 1) rfl (by (repeat' (first | exact trivial | exact Bool.not_or_self _ | exact grd1 _ | exact grd2 _ | exact grd3 _ _ | exact grd4 _ _ | refine And.intro ?_ ?_ | exact rfl | (simp; done) | (simp <;> omega))); done) ?_
  refine Run.fast (f := 4) rfl (by (repeat' (first | exact trivial | exact Bool.not_or_self _ | exact grd1 _ | exact grd2 _ | exact grd3 _ _ | exact grd4 _ _ | refine And.intro ?_ ?_ | exact rfl | (simp; done) | (simp <;> omega))); done) ?_
  cases hld : p.ld with
  | false =>
    refine Mid.ldF (cs := p.cs) (.t (.bool false)) rfl rfl hpc (by simp [Pl.cs, hld]) rfl ?_
    refine fM rfl ?_
    refine Run.condT rfl rfl rfl ?_
    refine fR rfl ?_
    refine Run.fin rfl (EndOk.sameX rfl rfl rfl hsa ?_)
    exact .tup (.cons zeroR (.cons (.t rfl) .nil))
  | true =>
    refine Mid.ldF (cs := p.cs) (.t (.bool true)) rfl rfl hpc (by simp [Pl.cs, hld]) rfl ?_
    refine fM rfl ?_
    refine Run.condF rfl rfl rfl ?_
    refine Run.fast (f := 4) rfl (by (repeat' (first | exact trivial | exact Bool.not_or_self _ | exact grd1 _ | exact grd2 _ | exact grd3 _ _ | exact grd4 _ _ | refine And.intro ?_ ?_ | exact rfl | (simp; done) | (simp <;> omega))); done) ?_
    refine Mid.ldFA (cs := p.cs) rfl rfl hpc (by simp [Pl.cs]) rfl rfl ?_
    skip
    refine Mid.call (copy_ok H p.res hpk.s) rfl rfl rfl rfl ?_
    refine fM rfl ?_
    refine Run.fin rfl (EndOk.sameX rfl rfl rfl hsa ?_)
    exact .tup (.cons (.le (.same rfl)) (.cons (.t rfl) .nil))
theorem calls_ok (H : Pr P) (m c s : Int) (o : AObj) (r : List (Nat × AObj)) (hb : stoBd 9 ((0, o) :: (1, .cells [.t (.int .i64 m), .mp 0, .t (.int .i64 c), .t (.int .i64 s)]) :: r) = true) : FnOk P 12 [.ptr 1 0] ⟨(0, o) :: (1, .cells [.t (.int .i64 m), .mp 0, .t (.int .i64 c), .t (.int .i64 s)]) :: r, 9⟩ { v := .t (.int .i64 c), rd := true } := by
  refine FnOk.run H.i12 H.mixed rfl rfl ?_
  refine fR rfl ?_
  refine Mid.callS (none_ga H m c s _ _ hb) rfl rfl hb rfl ?_
  refine fM rfl ?_
  refine Run.condF rfl rfl rfl ?_
  refine fR rfl ?_
  refine Run.fin rfl (EndOk.sameX rfl (List.append_nil _).symm rfl hb (.t rfl))
theorem saved_ok (H : Pr P) (m c s : Int) (o : AObj) (r : List (Nat × AObj)) (hb : stoBd 9 ((0, o) :: (1, .cells [.t (.int .i64 m), .mp 0, .t (.int .i64 c), .t (.int .i64 s)]) :: r) = true) : FnOk P 14 [.ptr 1 0] ⟨(0, o) :: (1, .cells [.t (.int .i64 m), .mp 0, .t (.int .i64 c), .t (.int .i64 s)]) :: r, 9⟩ { v := .t (.int .i64 s), rd := true } := by
  refine FnOk.run H.i14 H.mixed rfl rfl ?_
  refine fR rfl ?_
  refine Mid.callS (none_ga H m c s _ _ hb) rfl rfl hb rfl ?_
  refine fM rfl ?_
  refine Run.condF rfl rfl rfl ?_
  refine fR rfl ?_
  refine Run.fin rfl (EndOk.sameX rfl (List.append_nil _).symm rfl hb (.t rfl))
end Go.GB.C35


/-
  L35M: chapter 35: the chapter's examples.
-/
namespace Go.GB.C35
open Go.GB
set_option linter.unusedSimpArgs false
set_option linter.unusedVariables false
set_option maxRecDepth 100000
set_option maxHeartbeats 16000000
variable {P : Program}
theorem renOb_cons {ρ : Nat → Nat} {k k' : Nat} {o o' : AObj} {r r' : List (Nat × AObj)} (h1 : ρ k = k') (h2 : o.ren ρ = o') (h3 : renOb ρ r = r') : renOb ρ ((k, o) :: r) = (k', o') :: r' := by
  simp [renOb, h1, h2, h3]
theorem ren_pls (ρ : Nat → Nat) (ps : List Pl) : (AObj.fobs (ps.map Pl.cs)).ren ρ = .fobs (ps.map Pl.cs) := by
  simp only [AObj.ren, List.map_map]
  congr 1
theorem ren_open {ρ : Nat → Nat} {F F' : Nat} (h : ρ F = F') (nx n : Nat) (st : Option (Nat × List Nat)) : (AObj.map false (openE F nx n) st).ren ρ = .map false (openE F' nx n) st := by
  subst h
  simp only [AObj.ren, openE, List.map_map]
  congr 1
theorem mkI_k (n : Int) : (mkI n).Ok := .mk (by decide) (by decide) (by simp [mkI, Val.items]) (by simp [mkI, Val.keys]) (by simp [mkI, Val.text])
theorem mkT_k (s : Str) (h : s.length ≤ 140737488355328) : (mkT s).Ok := .mk (by simp [mkT, Val.items]) (by simp [mkT, Val.keys]) (by simp [mkT, Val.items]) (by simp [mkT, Val.text, h]) (by simp [mkT, Val.keys])
def kA : List Pl := [⟨mkI 7, Val.zero, false⟩]
def kB : List Pl := [⟨mkI 7, Val.zero, false⟩, ⟨mkT [98], Val.zero, false⟩]
def kC : List Pl := [⟨mkI 7, mkI 1, true⟩, ⟨mkT [98], mkI 2, true⟩]
theorem k_ne : sameV (mkI 7) (mkT [98]) = false := by
  simp [sameV, cmpV_eq, mkI, mkT, Val.kind, cmpI]
theorem fnd_b : fnd kA (mkT [98]) = none := by simp [fnd, kA, k_ne]
theorem fnd_a : fnd kB (mkI 7) = some 0 := by simp [fnd_cons, kB, sameV_refl]
theorem kB_ok : ∀ p, p ∈ kB → p.Ok := by
  intro p hp
  simp [kB] at hp
  rcases hp with rfl | rfl
  · exact ⟨mkI_k 7, Val.zero_ok⟩
  · exact ⟨mkT_k _ (by decide), Val.zero_ok⟩
theorem knows_ok (H : Pr P) : FnOk P 10 [] ⟨[], 0⟩ { v := .t (.bool true) } := by
  have h2 := add_ok H 2 0 0 0 0 [0] kA [] [([.int .i64 (0 : Int)], .ptr 4 0)] (by decide) (mkT [98]) (mkT_k _ (by decide)) (by decide) (by decide) (by decide) (fun p hp => kB_ok p (by simp [kA] at hp; simp [kB, hp])) rfl rfl (fun m h => by simp [V.bds, V.bd]; omega) (fun _ _ => rfl)
  rw [show addS kA (mkT [98]) = 0 by simp [addS, fnd_b], show addAt kA (mkT [98]) = 1 by rw [addAt, fnd_b]; rfl, show addPs kA (mkT [98]) = kB by simp [addPs, fnd_b]; rfl] at h2
  have h3 := add_ok H 2 0 0 0 0 [0, 1] kB [] [([.int .i64 (0 : Int)], .ptr 4 0)] (by decide) (mkI 7) (mkI_k _) (by decide) (by decide) (by decide) kB_ok rfl rfl (fun m h => by simp [V.bds, V.bd]; omega) (fun _ _ => rfl)
  rw [show addS kB (mkI 7) = 1 by simp [addS, fnd_a], show addAt kB (mkI 7) = 0 by simp [addAt, fnd_a], show addPs kB (mkI 7) = kB by simp [addPs, fnd_a]] at h3
  have h4 := next_ok H 2 0 1 0 0 [0, 1, 0] kB [([.int .i64 (0 : Int)], .ptr 4 0)] (by decide) (by decide) (by decide) (by decide) kB_ok rfl rfl (fun m h => by simp [V.bds, V.bd]; omega)
  have h5 := done_ok H 2 1 1 0 2 0 [0, 1, 0] kB [mkI 1, mkI 2] [([.int .i64 (0 : Int)], .ptr 4 0)] (by decide) (by intro v hv; simp at hv; rcases hv with rfl | rfl <;> exact mkI_k _) (by decide) (by decide) (by decide) kB_ok rfl rfl (fun m h => by simp [V.bds, V.bd]; omega)
  have h6 := take_ok H 2 1 1 0 2 [0, 1, 0] kC [] [([.int .i64 (0 : Int)], .ptr 4 0)] 2 0 ⟨mkI 7, mkI 1, true⟩ rfl rfl ⟨mkI_k 7, mkI_k 1⟩ (by decide) (by decide) rfl rfl (fun m h => by simp [V.bds, V.bd]; omega) (fun _ _ => rfl)
  have h7 := calls_ok H 2 1 1 (.map false [([.int .i64 (0 : Int)], .ptr 4 0)] none) [(3, .map false [] none), (4, .cells [.own 8 1 ([(0 : Int), 1, 0].map nE), .gsl 7 (pl kC).length 0 (pl kC).length 1, .t (.int .i64 2), .mp 3]), (5, .fobs (kC.map Pl.cs)), (7, .gro (pl kC).length (gE (pE 5) (pl kC))), (8, .arr [(0 : Int), 1, 0].length)] (by repeat' (first | exact (rfl : stoBd _ [] = true) | refine stoBd_cons (Nat.le_of_ble_eq_true rfl) ?_ ?_ | exact (by first | rfl | (refine open_bd ?_ _ _; exact Nat.le_of_ble_eq_true rfl) | exact pls_bd _ _ | (refine gE_bd ?_ _; exact Nat.le_of_ble_eq_true rfl))))
  have h8 := saved_ok H 2 1 1 (.map false [([.int .i64 (0 : Int)], .ptr 4 0)] none) [(3, .map false [] none), (4, .cells [.own 8 1 ([(0 : Int), 1, 0].map nE), .gsl 7 (pl kC).length 0 (pl kC).length 1, .t (.int .i64 2), .mp 3]), (5, .fobs (kC.map Pl.cs)), (7, .gro (pl kC).length (gE (pE 5) (pl kC))), (8, .arr [(0 : Int), 1, 0].length)] (by repeat' (first | exact (rfl : stoBd _ [] = true) | refine stoBd_cons (Nat.le_of_ble_eq_true rfl) ?_ ?_ | exact (by first | rfl | (refine open_bd ?_ _ _; exact Nat.le_of_ble_eq_true rfl) | exact pls_bd _ _ | (refine gE_bd ?_ _; exact Nat.le_of_ble_eq_true rfl))))
  have hs := same_ok H [mkI 7, mkT [98]] [mkI 7, mkT [98]] (by decide) (by decide) (by intro x hx; simp at hx; rcases hx with rfl | rfl; exact mkI_k _; exact mkT_k _ (by decide)) (by intro x hx; simp at hx; rcases hx with rfl | rfl; exact mkI_k _; exact mkT_k _ (by decide))
  rw [show sameL [mkI 7, mkT [98]] [mkI 7, mkT [98]] = true by simp [sameL, sameV_refl]] at hs
  refine FnOk.run H.i10 H.mixed rfl rfl ?_
  refine fR rfl ?_
  refine Mid.callR [] (new_ok H 2 (by decide) (by decide)) rfl rfl rfl rfl (by repeat' (first | exact (rfl : stoBd _ [] = true) | refine stoBd_cons (Nat.le_of_ble_eq_true rfl) ?_ ?_ | exact (by first | rfl | (refine open_bd ?_ _ _; exact Nat.le_of_ble_eq_true rfl) | exact pls_bd _ _ | (refine gE_bd ?_ _; exact Nat.le_of_ble_eq_true rfl)))) (by repeat' (first | exact trivial | refine And.intro ?_ ?_ | exact rfl | exact (congrArg some (ren_pls _ _)).symm | exact (congrArg some (ren_open rfl _ _ _)).symm | exact (congrArg some (AObj.ren_gE (fun _ => rfl) _ _)).symm)) rfl (v' := .tup [.ptr 1 0, .t (.int .i64 0)]) rfl (ob' := [(0, .map false [] (some (0, []))), (1, .cells [.t (.int .i64 2), .mp 0, .t (.int .i64 0), .t (.int .i64 0)])]) (by repeat' (first | exact (rfl : renOb _ [] = []) | refine renOb_cons rfl ?_ ?_ | exact rfl | exact ren_pls _ _ | exact ren_open rfl _ _ _ | exact AObj.ren_gE (fun _ => rfl) _ _)) rfl rfl ?_
  refine fM rfl ?_
  refine Mid.call (mkI_ok H 7) rfl rfl rfl rfl ?_
  skip
  refine Mid.call (mkT_ok H [98]) rfl rfl rfl rfl ?_
  refine fM rfl ?_
  refine Run.condF rfl rfl rfl ?_
  refine fR rfl ?_
  refine Mid.callR [0, 1] (add_first H 2 0 0 0 (by decide) (mkI 7) (mkI_k 7) _) rfl rfl rfl rfl (by repeat' (first | exact (rfl : stoBd _ [] = true) | refine stoBd_cons (Nat.le_of_ble_eq_true rfl) ?_ ?_ | exact (by first | rfl | (refine open_bd ?_ _ _; exact Nat.le_of_ble_eq_true rfl) | exact pls_bd _ _ | (refine gE_bd ?_ _; exact Nat.le_of_ble_eq_true rfl)))) (by repeat' (first | exact trivial | refine And.intro ?_ ?_ | exact rfl | exact (congrArg some (ren_pls _ _)).symm | exact (congrArg some (ren_open rfl _ _ _)).symm | exact (congrArg some (AObj.ren_gE (fun _ => rfl) _ _)).symm)) rfl (v' := .tup [.t (.int .i64 0), .t (.int .i64 0)]) rfl (ob' := [(0, .map false [([.int .i64 0], .ptr 6 0)] none), (5, .map false [] none), (6, .cells [.own 10 1 ([(0 : Int)].map nE), .gsl 9 (pl kA).length 0 (pl kA).length 1, .t (.int .i64 0), .mp 5]), (7, .fobs (kA.map Pl.cs)), (9, .gro (pl kA).length (gE (pE 7) (pl kA))), (10, .arr [(0 : Int)].length)]) (by repeat' (first | exact (rfl : renOb _ [] = []) | refine renOb_cons rfl ?_ ?_ | exact rfl | exact ren_pls _ _ | exact ren_open rfl _ _ _ | exact AObj.ren_gE (fun _ => rfl) _ _)) rfl rfl ?_
  refine fM rfl ?_
  refine Mid.callR [0, 1, 4, 5, 6, 7, 8, 9, 10] (h2) rfl rfl rfl rfl (by repeat' (first | exact (rfl : stoBd _ [] = true) | refine stoBd_cons (Nat.le_of_ble_eq_true rfl) ?_ ?_ | exact (by first | rfl | (refine open_bd ?_ _ _; exact Nat.le_of_ble_eq_true rfl) | exact pls_bd _ _ | (refine gE_bd ?_ _; exact Nat.le_of_ble_eq_true rfl)))) (by repeat' (first | exact trivial | refine And.intro ?_ ?_ | exact rfl | exact (congrArg some (ren_pls _ _)).symm | exact (congrArg some (ren_open rfl _ _ _)).symm | exact (congrArg some (AObj.ren_gE (fun _ => rfl) _ _)).symm)) rfl (v' := .tup [.t (.int .i64 1), .t (.int .i64 0)]) rfl (ob' := [(1, .cells [.t (.int .i64 2), .mp 0, .t (.int .i64 0), .t (.int .i64 0)]), (6, .cells [.own 10 1 ([(0 : Int), 1].map nE), .gsl 9 (pl kB).length 0 (pl kB).length 1, .t (.int .i64 0), .mp 5]), (7, .fobs (kB.map Pl.cs)), (9, .gro (pl kB).length (gE (pE 7) (pl kB))), (10, .arr [(0 : Int), 1].length)]) (by repeat' (first | exact (rfl : renOb _ [] = []) | refine renOb_cons rfl ?_ ?_ | exact rfl | exact ren_pls _ _ | exact ren_open rfl _ _ _ | exact AObj.ren_gE (fun _ => rfl) _ _)) rfl rfl ?_
  refine fM rfl ?_
  refine Mid.callR [0, 1, 4, 5, 6, 7, 8, 9, 10] (h3) rfl rfl rfl rfl (by repeat' (first | exact (rfl : stoBd _ [] = true) | refine stoBd_cons (Nat.le_of_ble_eq_true rfl) ?_ ?_ | exact (by first | rfl | (refine open_bd ?_ _ _; exact Nat.le_of_ble_eq_true rfl) | exact pls_bd _ _ | (refine gE_bd ?_ _; exact Nat.le_of_ble_eq_true rfl)))) (by repeat' (first | exact trivial | refine And.intro ?_ ?_ | exact rfl | exact (congrArg some (ren_pls _ _)).symm | exact (congrArg some (ren_open rfl _ _ _)).symm | exact (congrArg some (AObj.ren_gE (fun _ => rfl) _ _)).symm)) rfl (v' := .tup [.t (.int .i64 2), .t (.int .i64 0)]) rfl (ob' := [(1, .cells [.t (.int .i64 2), .mp 0, .t (.int .i64 0), .t (.int .i64 1)]), (6, .cells [.own 10 1 ([(0 : Int), 1, 0].map nE), .gsl 9 (pl kB).length 0 (pl kB).length 1, .t (.int .i64 0), .mp 5]), (7, .fobs (kB.map Pl.cs)), (9, .gro (pl kB).length (gE (pE 7) (pl kB))), (10, .arr [(0 : Int), 1, 0].length)]) (by repeat' (first | exact (rfl : renOb _ [] = []) | refine renOb_cons rfl ?_ ?_ | exact rfl | exact ren_pls _ _ | exact ren_open rfl _ _ _ | exact AObj.ren_gE (fun _ => rfl) _ _)) rfl rfl ?_
  refine fM rfl ?_
  refine Mid.callR [0, 1, 4, 5, 6, 7, 8, 9, 10] (h4) rfl rfl rfl rfl (by repeat' (first | exact (rfl : stoBd _ [] = true) | refine stoBd_cons (Nat.le_of_ble_eq_true rfl) ?_ ?_ | exact (by first | rfl | (refine open_bd ?_ _ _; exact Nat.le_of_ble_eq_true rfl) | exact pls_bd _ _ | (refine gE_bd ?_ _; exact Nat.le_of_ble_eq_true rfl)))) (by repeat' (first | exact trivial | refine And.intro ?_ ?_ | exact rfl | exact (congrArg some (ren_pls _ _)).symm | exact (congrArg some (ren_open rfl _ _ _)).symm | exact (congrArg some (AObj.ren_gE (fun _ => rfl) _ _)).symm)) rfl (v' := .tup [.t (.lst ([mkI 7, mkT [98]].map Val.enc)), .t (.bool true)]) rfl (ob' := [(1, .cells [.t (.int .i64 2), .mp 0, .t (.int .i64 1), .t (.int .i64 1)]), (5, .map false (openE 7 0 2) none), (6, .cells [.own 10 1 ([(0 : Int), 1, 0].map nE), .gsl 9 (pl kB).length 0 (pl kB).length 1, .t (.int .i64 2), .mp 5])]) (by repeat' (first | exact (rfl : renOb _ [] = []) | refine renOb_cons rfl ?_ ?_ | exact rfl | exact ren_pls _ _ | exact ren_open rfl _ _ _ | exact AObj.ren_gE (fun _ => rfl) _ _)) rfl rfl ?_
  refine fM rfl ?_
  refine Mid.call (mkI_ok H 1) rfl rfl rfl rfl ?_
  skip
  refine Mid.call (mkI_ok H 2) rfl rfl rfl rfl ?_
  refine fM rfl ?_
  refine Mid.callR [0, 1, 4, 5, 6, 7, 8, 9, 10] (h5) rfl rfl rfl rfl (by repeat' (first | exact (rfl : stoBd _ [] = true) | refine stoBd_cons (Nat.le_of_ble_eq_true rfl) ?_ ?_ | exact (by first | rfl | (refine open_bd ?_ _ _; exact Nat.le_of_ble_eq_true rfl) | exact pls_bd _ _ | (refine gE_bd ?_ _; exact Nat.le_of_ble_eq_true rfl)))) (by repeat' (first | exact trivial | refine And.intro ?_ ?_ | exact rfl | exact (congrArg some (ren_pls _ _)).symm | exact (congrArg some (ren_open rfl _ _ _)).symm | exact (congrArg some (AObj.ren_gE (fun _ => rfl) _ _)).symm)) rfl (v' := .t (.int .i64 0)) rfl (ob' := [(5, .map false [] none), (6, .cells [.own 10 1 ([(0 : Int), 1, 0].map nE), .gsl 9 (pl kC).length 0 (pl kC).length 1, .t (.int .i64 2), .mp 5]), (7, .fobs (kC.map Pl.cs)), (9, .gro (pl kC).length (gE (pE 7) (pl kC)))]) (by repeat' (first | exact (rfl : renOb _ [] = []) | refine renOb_cons rfl ?_ ?_ | exact rfl | exact ren_pls _ _ | exact ren_open rfl _ _ _ | exact AObj.ren_gE (fun _ => rfl) _ _)) rfl rfl ?_
  refine fM rfl ?_
  refine Mid.callR [0, 1, 4, 5, 6, 7, 8, 9, 10] (h6) rfl rfl rfl rfl (by repeat' (first | exact (rfl : stoBd _ [] = true) | refine stoBd_cons (Nat.le_of_ble_eq_true rfl) ?_ ?_ | exact (by first | rfl | (refine open_bd ?_ _ _; exact Nat.le_of_ble_eq_true rfl) | exact pls_bd _ _ | (refine gE_bd ?_ _; exact Nat.le_of_ble_eq_true rfl)))) (by repeat' (first | exact trivial | refine And.intro ?_ ?_ | exact rfl | exact (congrArg some (ren_pls _ _)).symm | exact (congrArg some (ren_open rfl _ _ _)).symm | exact (congrArg some (AObj.ren_gE (fun _ => rfl) _ _)).symm)) rfl (v' := .tup [(mkI 1).v, .t (.bool true)]) rfl (ob' := []) (by repeat' (first | exact (rfl : renOb _ [] = []) | refine renOb_cons rfl ?_ ?_ | exact rfl | exact ren_pls _ _ | exact ren_open rfl _ _ _ | exact AObj.ren_gE (fun _ => rfl) _ _)) rfl rfl ?_
  refine fM rfl ?_
  refine Mid.ungd rfl rfl rfl ?_
  refine fM rfl ?_
  refine caG rfl rfl (fun hg => ⟨_, rfl, hs, rfl⟩) rfl rfl ?_
  refine fM rfl ?_
  refine Mid.ungd rfl rfl rfl ?_
  refine Mid.callR [0, 1, 4, 5, 6, 7, 8, 9, 10] (h7) rfl rfl rfl rfl (by repeat' (first | exact (rfl : stoBd _ [] = true) | refine stoBd_cons (Nat.le_of_ble_eq_true rfl) ?_ ?_ | exact (by first | rfl | (refine open_bd ?_ _ _; exact Nat.le_of_ble_eq_true rfl) | exact pls_bd _ _ | (refine gE_bd ?_ _; exact Nat.le_of_ble_eq_true rfl)))) (by repeat' (first | exact trivial | refine And.intro ?_ ?_ | exact rfl | exact (congrArg some (ren_pls _ _)).symm | exact (congrArg some (ren_open rfl _ _ _)).symm | exact (congrArg some (AObj.ren_gE (fun _ => rfl) _ _)).symm)) rfl (v' := .t (.int .i64 1)) rfl (ob' := []) (by repeat' (first | exact (rfl : renOb _ [] = []) | refine renOb_cons rfl ?_ ?_ | exact rfl | exact ren_pls _ _ | exact ren_open rfl _ _ _ | exact AObj.ren_gE (fun _ => rfl) _ _)) rfl rfl ?_
  refine fM rfl ?_
  refine Mid.ungd rfl rfl rfl ?_
  refine Mid.callR [0, 1, 4, 5, 6, 7, 8, 9, 10] (h8) rfl rfl rfl rfl (by repeat' (first | exact (rfl : stoBd _ [] = true) | refine stoBd_cons (Nat.le_of_ble_eq_true rfl) ?_ ?_ | exact (by first | rfl | (refine open_bd ?_ _ _; exact Nat.le_of_ble_eq_true rfl) | exact pls_bd _ _ | (refine gE_bd ?_ _; exact Nat.le_of_ble_eq_true rfl)))) (by repeat' (first | exact trivial | refine And.intro ?_ ?_ | exact rfl | exact (congrArg some (ren_pls _ _)).symm | exact (congrArg some (ren_open rfl _ _ _)).symm | exact (congrArg some (AObj.ren_gE (fun _ => rfl) _ _)).symm)) rfl (v' := .t (.int .i64 1)) rfl (ob' := []) (by repeat' (first | exact (rfl : renOb _ [] = []) | refine renOb_cons rfl ?_ ?_ | exact rfl | exact ren_pls _ _ | exact ren_open rfl _ _ _ | exact AObj.ren_gE (fun _ => rfl) _ _)) rfl rfl ?_
  refine fM rfl ?_
  refine Run.fin rfl (EndOk.go ?_); exact .t rfl
end Go.GB.C35


/-
  L35O: chapter 35: the laws' own functions; fetches that have no queue.
-/
namespace Go.GB.C35
open Go.GB
set_option linter.unusedSimpArgs false
set_option linter.unusedVariables false
set_option maxRecDepth 100000
set_option maxHeartbeats 8000000
variable {P : Program}
/-- the first value that is the same -/
def idx (l : List Val) (v : Val) : Option Nat := l.findIdx? fun d => sameV d v
def idxI (l : List Val) (v : Val) : Int := match idx l v with | some i => i | none => -1
theorem idx_at {l : List Val} {i : Nat} {x v : Val} (h : l[i]? = some x) : idx (l.drop i) v = if sameV x v then some 0 else (idx (l.drop (i + 1)) v).map (· + 1) := by
  rw [drop_at h]; simp only [idx, List.findIdx?_cons]
theorem index_ok (H : Pr P) (l : List Val) (v : Val) (hl : l.length ≤ 140737488355328) (ho : ∀ x, x ∈ l → x.Ok) (hv : v.Ok) : FnOk P 22 [.t (.lst (l.map Val.enc)), v.v] ⟨[], 0⟩ { v := .t (.int .i64 (idxI l v)) } := by
  refine FnOk.run H.i22 H.mixed rfl rfl ?_
  refine fR rfl ?_
  refine rList l (fun i (_ : Unit) => { env := [(0, .t (.lst (l.map Val.enc))), (3, .ptr 0 0), (5, .t (.int .i64 i))], s := ⟨[(0, .cells [.t (.int .i64 v.kind), .t (.int .i64 v.int), .t (.str v.text), .t (.lst (v.items.map Val.enc)), .t (.lst (v.keys.map sE))])], 1⟩ }) (fun r i _ => idx l v = (idx (l.drop i) v).map (· + i)) 1 () rfl (by simp) rfl rfl rfl ?_ ?_
  · intro _ hinv
    have hn : idx l v = none := by rw [hinv]; simp [idx]
    have e : idxI l v = -1 := by simp [idxI, hn]
    rw [e]
    refine fR rfl ?_
    refine lM rfl rfl rfl ?_
    refine fM rfl ?_
    refine Run.condF rfl rfl (by simp) ?_
    refine fR rfl ?_
    refine Run.fin rfl (EndOk.go ?_); exact .t rfl
  · rintro i x r _ h1 hi hd hinv ih
    have hc := rsame_ok H x v (ho x (List.mem_of_getElem? h1)) hv
    rw [idx_at h1] at hinv
    refine fR rfl ?_
    refine lM rfl rfl rfl ?_
    refine fM rfl ?_
    refine Run.condT rfl rfl (by simp; omega) ?_
    refine fR rfl ?_
    refine Mid.elemMapC (Val.enc_eq x) rfl rfl rfl h1 rfl rfl ?_
    refine fM rfl ?_
    refine Mid.call (hc) rfl rfl rfl rfl ?_
    refine fM rfl ?_
    by_cases hs : sameV x v = true
    · rw [if_pos hs] at hinv
      have e : idxI l v = i := by simp [idxI, hinv]
      rw [e]
      refine Run.condT rfl rfl (by simpa using hs) ?_
      refine fR rfl ?_
      refine Run.fin rfl (EndOk.go ?_); exact .t rfl
    · rw [if_neg hs] at hinv
      refine Run.condF rfl rfl (by simpa using hs) ?_
      refine fR rfl ?_
      refine aL rfl rfl rfl rfl rfl ?_
      refine fM rfl ?_
      exact rWeak 1 rfl (ih () (by rw [hinv, Option.map_map]; congr 1; funext y; simp; omega)) rfl rfl rfl
def fewF (l : List Val) : Bool := ((l.take 100).all fun v => decide (szV v ≤ 50)) && decide (l.length ≤ 100)
theorem few_ok (H : Pr P) (l : List Val) (hl : l.length ≤ 140737488355328) (ho : ∀ x, x ∈ l → x.Ok) : FnOk P 21 [.t (.lst (l.map Val.enc))] ⟨[], 0⟩ { v := .t (.bool (fewF l)) } := by
  refine FnOk.run H.i21 H.mixed rfl rfl ?_
  refine fR rfl ?_
  refine rList (l.take 100) (fun i (_ : Unit) => { env := [(0, .t (.lst (l.map Val.enc))), (3, .t (.int .i64 i))], s := ⟨[], 0⟩ }) (fun r i _ => ∀ j x, j < i → l[j]? = some x → szV x ≤ 50) 0 () rfl (by intro j x hj; omega) rfl rfl rfl ?_ ?_
  · intro _ hinv
    have e : fewF l = decide (l.length ≤ 100) := by
      have : ((l.take 100).all fun v => decide (szV v ≤ 50)) = true := by
        simp only [List.all_eq_true, decide_eq_true_eq]
        intro x hx
        obtain ⟨j, hj⟩ := List.getElem?_of_mem hx
        have hlt := (List.getElem?_eq_some_iff.1 hj).1
        refine hinv j x hlt ?_
        rw [List.getElem?_take] at hj
        split at hj
        · exact hj
        · cases hj
      simp [fewF, this]
    rw [e]
    simp only [List.length_take] at *
    refine fR rfl ?_
    refine lM rfl rfl rfl ?_
    refine fM rfl ?_
    refine Run.condF rfl rfl (by simp; omega) ?_
    refine fR rfl ?_
    refine lM rfl rfl rfl ?_
    refine fM rfl ?_
    refine Run.fin rfl (EndOk.go ?_); exact .t (by simp; omega)
  · rintro i x r _ h1 hi hd hinv ih
    have h1' : l[i]? = some x ∧ i < 100 := by
      rw [List.getElem?_take] at h1
      split at h1
      · exact ⟨h1, by assumption⟩
      · cases h1
    have hil := (List.getElem?_eq_some_iff.1 h1'.1).1
    have hc := size_ok H x (ho x (List.mem_of_getElem? h1'.1))
    refine fR rfl ?_
    refine lM rfl rfl rfl ?_
    refine fM rfl ?_
    refine Run.condT rfl rfl (by simp; omega) ?_
    refine fR rfl ?_
    refine Mid.elemMapC (Val.enc_eq x) rfl rfl rfl h1'.1 rfl rfl ?_
    refine fM rfl ?_
    refine Mid.call (hc) rfl rfl rfl rfl ?_
    refine fM rfl ?_
    by_cases hs : szV x ≤ 50
    · refine Run.condF rfl rfl (by simp; omega) ?_
      refine fR rfl ?_
      refine aL rfl rfl rfl rfl rfl ?_
      refine fM rfl ?_
      exact rWeak 0 rfl (ih () (by
        intro j y hj hy
        by_cases hji : j = i
        · subst hji; rw [h1'.1] at hy; cases hy; exact hs
        · exact hinv j y (by omega) hy)) rfl rfl rfl
    · have e : fewF l = false := by
        simp only [fewF, Bool.and_eq_false_iff]
        refine .inl ?_
        rw [List.all_eq_false]
        exact ⟨x, List.mem_of_getElem? h1, by simp; omega⟩
      rw [e]
      refine Run.condT rfl rfl (by simp; omega) ?_
      refine fR rfl ?_
      refine Run.fin rfl (EndOk.go ?_); exact .t rfl
theorem none_n2 (H : Pr P) (m c s : Int) (o : AObj) (r : List (Nat × AObj)) (hb : stoBd 2 ((0, o) :: (1, .cells [.t (.int .i64 m), .mp 0, .t (.int .i64 c), .t (.int .i64 s)]) :: r) = true) : FnOk P 31 [.ptr 1 0] ⟨(0, o) :: (1, .cells [.t (.int .i64 m), .mp 0, .t (.int .i64 c), .t (.int .i64 s)]) :: r, 2⟩ { v := .t (.bool false), rd := true } := by
  refine FnOk.run H.i31 H.mixed rfl rfl ?_
  refine fR rfl ?_
  refine Run.fin rfl (EndOk.sameX rfl (List.append_nil _).symm rfl hb (.t rfl))
theorem next_n2 (H : Pr P) (m c s f : Int) (es : List (List T × V)) (sx : Option (Nat × List Nat)) (r : List (Nat × AObj)) (hk : keysOk [.int .i64] es = true) (hg : mget [.int .i64 f] es = none) (hb : stoBd 2 ((0, .map false es sx) :: (1, .cells [.t (.int .i64 m), .mp 0, .t (.int .i64 c), .t (.int .i64 s)]) :: r) = true) : FnOk P 17 [.ptr 1 0, .t (.int .i64 f)] ⟨(0, .map false es sx) :: (1, .cells [.t (.int .i64 m), .mp 0, .t (.int .i64 c), .t (.int .i64 s)]) :: r, 2⟩ { v := .tup [.t (.lst []), .t (.bool false)], rd := true } := by
  refine FnOk.run H.i17 H.mixed rfl rfl ?_
  refine fR rfl ?_
  refine Mid.callS (none_n2 H m c s _ _ hb) rfl rfl hb rfl ?_
  refine fM rfl ?_
  refine Mid.lookVG (.t .nilp) rfl rfl rfl rfl rfl (hk) (by rw [hg]; rfl) (by (repeat' (first | exact trivial | exact Bool.not_or_self _ | exact grd1 _ | exact grd2 _ | exact grd3 _ _ | exact grd4 _ _ | refine And.intro ?_ ?_ | exact rfl | (simp; done) | (simp <;> omega))); done) (by (repeat' (first | exact trivial | exact Bool.not_or_self _ | exact grd1 _ | exact grd2 _ | exact grd3 _ _ | exact grd4 _ _ | refine And.intro ?_ ?_ | exact rfl | (simp; done) | (simp <;> omega))); done) rfl ?_
  refine fM rfl ?_
  refine Run.condT rfl rfl rfl ?_
  refine fR rfl ?_
  refine Run.fin rfl (EndOk.sameX rfl (List.append_nil _).symm rfl hb ?_)
  exact .tup (.cons (.nil rfl) (.cons (.t rfl) .nil))
theorem calls_n2 (H : Pr P) (m c s : Int) (o : AObj) (r : List (Nat × AObj)) (hb : stoBd 2 ((0, o) :: (1, .cells [.t (.int .i64 m), .mp 0, .t (.int .i64 c), .t (.int .i64 s)]) :: r) = true) : FnOk P 12 [.ptr 1 0] ⟨(0, o) :: (1, .cells [.t (.int .i64 m), .mp 0, .t (.int .i64 c), .t (.int .i64 s)]) :: r, 2⟩ { v := .t (.int .i64 c), rd := true } := by
  refine FnOk.run H.i12 H.mixed rfl rfl ?_
  refine fR rfl ?_
  refine Mid.callS (none_n2 H m c s _ _ hb) rfl rfl hb rfl ?_
  refine fM rfl ?_
  refine Run.condF rfl rfl rfl ?_
  refine fR rfl ?_
  refine Run.fin rfl (EndOk.sameX rfl (List.append_nil _).symm rfl hb (.t rfl))
theorem saved_n2 (H : Pr P) (m c s : Int) (o : AObj) (r : List (Nat × AObj)) (hb : stoBd 2 ((0, o) :: (1, .cells [.t (.int .i64 m), .mp 0, .t (.int .i64 c), .t (.int .i64 s)]) :: r) = true) : FnOk P 14 [.ptr 1 0] ⟨(0, o) :: (1, .cells [.t (.int .i64 m), .mp 0, .t (.int .i64 c), .t (.int .i64 s)]) :: r, 2⟩ { v := .t (.int .i64 s), rd := true } := by
  refine FnOk.run H.i14 H.mixed rfl rfl ?_
  refine fR rfl ?_
  refine Mid.callS (none_n2 H m c s _ _ hb) rfl rfl hb rfl ?_
  refine fM rfl ?_
  refine Run.condF rfl rfl rfl ?_
  refine fR rfl ?_
  refine Run.fin rfl (EndOk.sameX rfl (List.append_nil _).symm rfl hb (.t rfl))
end Go.GB.C35


/-
  L35P: chapter 35: what the batches of a fetch are, in plain Lean.
-/
namespace Go.GB.C35
open Go.GB
set_option linter.unusedSimpArgs false
set_option linter.unusedVariables false
def plA (k j : Nat) (v : Val) : Pl := if j < k then ⟨v, mkL [v], true⟩ else ⟨v, Val.zero, false⟩
def psN (D : List Val) (k : Nat) : List Pl := D.mapIdx (plA k)
theorem psN_at (D : List Val) (k j : Nat) : (psN D k)[j]? = (D[j]?).map (plA k j) := by simp [psN]
theorem psN_len (D : List Val) (k : Nat) : (psN D k).length = D.length := by simp [psN]
theorem psN_rep (D : List Val) (k : Nat) : (psN D k).map Pl.rep = D := by
  apply List.ext_getElem?
  intro j
  rw [List.getElem?_map, psN_at]
  cases D[j]? with
  | none => rfl
  | some v => simp only [Option.map_some, plA]; split <;> rfl
def addD (D : List Val) (v : Val) : List Val := if (idx D v).isSome then D else D ++ [v]
theorem fnd_rep (ps : List Pl) (v : Val) : fnd ps v = idx (ps.map Pl.rep) v := by
  simp [fnd, idx, List.findIdx?_map, Function.comp_def]
theorem fnd_psN (D : List Val) (k : Nat) (v : Val) : fnd (psN D k) v = idx D v := by rw [fnd_rep, psN_rep]
theorem psN_push (D : List Val) (v : Val) : psN D 0 ++ [⟨v, Val.zero, false⟩] = psN (D ++ [v]) 0 := by
  apply List.ext_getElem?
  intro j
  rw [psN_at]
  by_cases h : j < D.length
  · rw [List.getElem?_append_left (by rw [psN_len]; exact h), List.getElem?_append_left h, psN_at]
  · rw [List.getElem?_append_right (by rw [psN_len]; omega), List.getElem?_append_right (by omega), psN_len]
    cases hj : j - D.length with
    | zero => simp [plA]
    | succ n => simp
theorem addPs_psN (D : List Val) (v : Val) : addPs (psN D 0) v = psN (addD D v) 0 := by
  unfold addPs addD
  rw [fnd_psN]
  split
  · rfl
  · exact psN_push D v
theorem mkL_k {v : Val} (hv : v.Ok) : (mkL [v]).Ok := .mk (by simp [mkL, Val.items]; decide) (by simp [mkL, Val.keys]) (by intro x hx; simp [mkL, Val.items] at hx; subst hx; exact hv) (by simp [mkL, Val.text]) (by simp [mkL, Val.keys])
theorem psN_ok {D : List Val} {k : Nat} (h : ∀ v, v ∈ D → v.Ok) : ∀ p, p ∈ psN D k → p.Ok := by
  intro p hp
  obtain ⟨j, hj⟩ := List.getElem?_of_mem hp
  rw [psN_at] at hj
  cases hv : D[j]? with
  | none => rw [hv] at hj; cases hj
  | some v =>
    rw [hv] at hj
    have hvk := h v (List.mem_of_getElem? hv)
    simp only [Option.map_some, Option.some.injEq, plA] at hj
    split at hj <;> subst hj
    · exact ⟨hvk, mkL_k hvk⟩
    · exact ⟨hvk, Val.zero_ok⟩
theorem reps_psN (D : List Val) (n k j : Nat) : reps n k (psN D j) = (D.drop n).take k := by
  unfold reps
  rw [List.map_take, List.map_drop, psN_rep]
theorem upd_psN {D : List Val} {n : Nat} {x : Val} (h : D[n]? = some x) : upd (psN D n) n (mkL [x]) = psN D (n + 1) := by
  apply List.ext_getElem?
  intro j
  simp only [upd, List.getElem?_modify, psN_at]
  by_cases hj : n = j
  · subst hj; simp [h, plA]
  · cases D[j]? with
    | none => simp [hj]
    | some v =>
      simp only [hj, if_false, Option.map_some, Option.map_eq_map, id, plA]
      by_cases h1 : j < n
      · rw [if_pos h1, if_pos (by omega)]
      · rw [if_neg h1, if_neg (by omega)]
theorem setR_psN (D : List Val) : ∀ (k n : Nat), n + k ≤ D.length → setR (psN D n) n (((D.drop n).take k).map fun v => mkL [v]) = psN D (n + k)
  | 0, n, _ => by simp [setR]
  | k + 1, n, h => by
    have hx : D[n]? = some D[n] := List.getElem?_eq_getElem (by omega)
    rw [drop_at hx]
    simp only [List.take_succ_cons, List.map_cons, setR]
    rw [upd_psN hx, setR_psN D k (n + 1) (by omega)]
    congr 1; omega
theorem sameV_mkL (x y : Val) : sameV (mkL [x]) (mkL [y]) = sameV x y := by
  simp [sameV, cmpV_eq, mkL, Val.kind, Val.int, Val.text, Val.items, Val.keys, cmpI_zero.2 rfl, sameS_zero.2 rfl, cmpVs]
theorem sameL_refl : ∀ l : List Val, sameL l l = true
  | [] => rfl
  | x :: r => by simp [sameL, sameV_refl, sameL_refl r]
/-- what is known of the tickets of a list of representations -/
structure Tk (l : List Val) (D : List Val) (tk : List Int) (s : Int) : Prop where
  len : tk.length = l.length
  at_ : ∀ (j : Nat) (v : Val), l[j]? = some v → ∃ (a : Nat) (x : Val), tk[j]? = some (a : Int) ∧ D[a]? = some x ∧ sameV x v = true
  le : D.length ≤ l.length
  sv : s = (l.length : Int) - D.length
  sub : ∀ x, x ∈ D → x ∈ l
theorem Tk.one (v : Val) : Tk [v] [v] [0] 0 := by
  refine ⟨rfl, fun j x h => ?_, Nat.le_refl _, by simp, fun x h => h⟩
  cases j with
  | zero => simp at h; subst h; exact ⟨0, v, rfl, rfl, sameV_refl v⟩
  | succ j => simp at h
theorem Tk.push {l D : List Val} {tk : List Int} {s : Int} (h : Tk l D tk s) (v : Val) : Tk (l ++ [v]) (addD D v) (tk ++ [(addAt (psN D 0) v : Int)]) (s + addS (psN D 0) v) := by
  have hlt := h.le
  have hnew : ∀ (j : Nat) (x : Val) (E : List Val) (a0 : Int), (∀ (a : Nat) (y : Val), D[a]? = some y → E[a]? = some y) → (∃ (a : Nat) (y : Val), a0 = a ∧ E[a]? = some y ∧ sameV y v = true) → (l ++ [v])[j]? = some x → ∃ (a : Nat) (y : Val), (tk ++ [a0])[j]? = some (a : Int) ∧ E[a]? = some y ∧ sameV y x = true := by
    intro j x E a0 hE ha hj
    by_cases hjl : j < l.length
    · rw [List.getElem?_append_left hjl] at hj
      obtain ⟨a, y, h1, h2, h3⟩ := h.at_ j x hj
      exact ⟨a, y, by rw [List.getElem?_append_left (by rw [h.len]; exact hjl)]; exact h1, hE a y h2, h3⟩
    · rw [List.getElem?_append_right (by omega)] at hj
      cases hn : j - l.length with
      | zero =>
        rw [hn] at hj; simp at hj; subst hj
        obtain ⟨a, y, rfl, h2, h3⟩ := ha
        exact ⟨a, y, by rw [List.getElem?_append_right (by rw [h.len]; omega), h.len, hn]; rfl, h2, h3⟩
      | succ n => rw [hn] at hj; simp at hj
  unfold addD addAt addS
  rw [fnd_psN]
  cases hi : idx D v with
  | none =>
    simp only [Option.isSome_none, Bool.false_eq_true, if_false, Option.getD_none, psN_len]
    refine ⟨by simp [h.len], fun j x hj => hnew j x _ _ (fun a y ha => ?_) ⟨D.length, v, rfl, by simp, sameV_refl v⟩ hj, by simp; omega, by rw [h.sv]; simp; omega, fun x hx => ?_⟩
    · rw [List.getElem?_append_left (List.getElem?_eq_some_iff.1 ha).1]; exact ha
    · simp at hx ⊢
      rcases hx with hx | hx
      · exact .inl (h.sub x hx)
      · exact .inr hx
  | some a =>
    simp only [Option.isSome_some, if_true, Option.getD_some]
    obtain ⟨h1, h2, _⟩ := List.findIdx?_eq_some_iff_getElem.1 hi
    refine ⟨by simp [h.len], fun j x hj => hnew j x _ _ (fun a y ha => ha) ⟨a, D[a], rfl, by simp [h1], h2⟩ hj, by simp; omega, by rw [h.sv]; simp; omega, fun x hx => ?_⟩
    simp; exact .inl (h.sub x hx)
theorem idxI_neg {D : List Val} {v : Val} : (idxI D v < 0) ↔ (idx D v).isSome = false := by
  unfold idxI
  cases idx D v with
  | none => simp
  | some i => simp
end Go.GB.C35


/-
  L35Q: chapter 35: the law of batches.
-/
namespace Go.GB.C35
open Go.GB
set_option linter.unusedSimpArgs false
set_option linter.unusedVariables false
set_option maxRecDepth 100000
set_option maxHeartbeats 32000000
variable {P : Program}
theorem rounds_eq {L m R : Nat} (hm : 0 < m) (h1 : L ≤ R * m) (h2 : R = 0 ∨ (R - 1) * m < L) : IntKind.i64.wrap (((L : Int) + (m : Int) - 1).tdiv (m : Int)) = if L + m ≤ 1000000 then (R : Int) else IntKind.i64.wrap (((L : Int) + (m : Int) - 1).tdiv (m : Int)) := by
  split
  · have e : (L + m - 1) / m = R := by
      refine Nat.div_eq_of_lt_le ?_ ?_
      · rcases h2 with h | h
        · subst h; omega
        · cases R with
          | zero => omega
          | succ R => rw [Nat.succ_mul]; simp at h; omega
      · rw [Nat.succ_mul]; omega
    have e2 : ((L : Int) + (m : Int) - 1) = ((L + m - 1 : Nat) : Int) := by omega
    rw [e2, ← Int.ofNat_tdiv, e]
    have : R ≤ L + m - 1 := by rw [← e]; exact Nat.div_le_self _ _
    exact wrap64 (by omega) (by omega)
  · rfl
theorem law_loads (H : Pr P) (n : Int) (hn : -9223372036854775808 ≤ n ∧ n ≤ 9223372036854775807) (l : List Val) (hl : l.length * 80 ≤ 140737488355328) (ho : ∀ v, v ∈ l → v.Ok) : FnOk P 5 [.t (.int .i64 n), .t (.lst (l.map Val.enc))] ⟨[], 0⟩ { v := .t (.bool true) } := by
  refine FnOk.run H.i5 H.mixed rfl rfl ?_
  refine fR rfl ?_
  refine Mid.call (few_ok H l (by omega) ho) rfl rfl rfl rfl ?_
  refine fM rfl ?_
  refine Run.cond rfl rfl (fun hw => ?_) (fun hw => ?_)
  · refine fR rfl ?_
    refine Mid.call (knows_ok H) rfl rfl rfl rfl ?_
    refine fM rfl ?_
    refine Run.fin rfl (EndOk.go ?_); exact .t rfl
  have hw2 : fewF l = true ∧ 1 ≤ n ∧ n ≤ 1024 := by
    revert hw
    cases fewF l <;> simp
    try omega
  obtain ⟨hf, hn1, hn2⟩ := hw2
  have hl1 : l.length ≤ 100 := by simp [fewF] at hf; exact hf.2
  clear hw
  refine fR rfl ?_
  refine Mid.callR [] (new_ok H n hn1 hn2) rfl rfl rfl rfl (by repeat' (first | exact (rfl : stoBd _ [] = true) | refine stoBd_cons (Nat.le_of_ble_eq_true rfl) ?_ ?_ | exact (by first | rfl | (refine open_bd ?_ _ _; exact Nat.le_of_ble_eq_true rfl) | exact pls_bd _ _ | (refine gE_bd ?_ _; exact Nat.le_of_ble_eq_true rfl)))) (by repeat' (first | exact trivial | refine And.intro ?_ ?_ | exact rfl | exact (congrArg some (ren_pls _ _)).symm | (refine (congrArg some (ren_open ?_ _ _ _)).symm; exact rfl) | (refine (congrArg some (AObj.ren_gE ?_ _ _)).symm; intro _; rfl))) rfl (v' := .tup [.ptr 1 0, .t (.int .i64 0)]) rfl (ob' := [(0, .map false [] (some (0, []))), (1, .cells [.t (.int .i64 n), .mp 0, .t (.int .i64 0), .t (.int .i64 0)])]) (by repeat' (first | exact (rfl : renOb _ [] = []) | refine renOb_cons rfl ?_ ?_ | exact rfl | exact ren_pls _ _ | (refine ren_open ?_ _ _ _; exact rfl) | (refine AObj.ren_gE ?_ _ _; intro _; rfl))) rfl rfl ?_
  refine fM rfl ?_
  by_cases hne : l = []
  · subst hne
    have e1 := next_n2 H n 0 0 3 [] (some (0, [])) [] rfl rfl rfl
    have e2 := calls_n2 H n 0 0 (.map false [] (some (0, []))) [] rfl
    have e3 := saved_n2 H n 0 0 (.map false [] (some (0, []))) [] rfl
    have e4 := same_ok H [] [] (by decide) (by decide) (by simp) (by simp)
    skip
    refine Run.loop rfl ?_
    refine Run.unroll ?_
    refine fR rfl ?_
    refine lM rfl rfl rfl ?_
    refine fM rfl ?_
    refine Run.condF rfl rfl rfl ?_
    refine fR rfl ?_
    refine Run.loop rfl ?_
    refine Run.unroll ?_
    refine fR rfl ?_
    refine p0 rfl ?_
    refine fM rfl ?_
    refine Run.condT rfl rfl rfl ?_
    refine fR rfl ?_
    refine Mid.callR [0, 1] (e1) rfl rfl rfl rfl (by repeat' (first | exact (rfl : stoBd _ [] = true) | refine stoBd_cons (Nat.le_of_ble_eq_true rfl) ?_ ?_ | exact (by first | rfl | (refine open_bd ?_ _ _; exact Nat.le_of_ble_eq_true rfl) | exact pls_bd _ _ | (refine gE_bd ?_ _; exact Nat.le_of_ble_eq_true rfl)))) (by repeat' (first | exact trivial | refine And.intro ?_ ?_ | exact rfl | exact (congrArg some (ren_pls _ _)).symm | (refine (congrArg some (ren_open ?_ _ _ _)).symm; exact rfl) | (refine (congrArg some (AObj.ren_gE ?_ _ _)).symm; intro _; rfl))) rfl (v' := .tup [.t (.lst []), .t (.bool false)]) rfl (ob' := []) (by repeat' (first | exact (rfl : renOb _ [] = []) | refine renOb_cons rfl ?_ ?_ | exact rfl | exact ren_pls _ _ | (refine ren_open ?_ _ _ _; exact rfl) | (refine AObj.ren_gE ?_ _ _; intro _; rfl))) rfl rfl ?_
    refine fM rfl ?_
    refine Run.condT rfl rfl rfl ?_
    refine fR rfl ?_
    refine Run.loop rfl ?_
    refine Run.unroll ?_
    refine fR rfl ?_
    refine lM rfl rfl rfl ?_
    refine fM rfl ?_
    refine Run.condF rfl rfl rfl ?_
    refine fR rfl ?_
    refine Mid.call (e4) rfl rfl rfl rfl ?_
    refine fM rfl ?_
    refine Mid.ungd rfl rfl rfl ?_
    refine Mid.callR [0, 1] (e2) rfl rfl rfl rfl (by repeat' (first | exact (rfl : stoBd _ [] = true) | refine stoBd_cons (Nat.le_of_ble_eq_true rfl) ?_ ?_ | exact (by first | rfl | (refine open_bd ?_ _ _; exact Nat.le_of_ble_eq_true rfl) | exact pls_bd _ _ | (refine gE_bd ?_ _; exact Nat.le_of_ble_eq_true rfl)))) (by repeat' (first | exact trivial | refine And.intro ?_ ?_ | exact rfl | exact (congrArg some (ren_pls _ _)).symm | (refine (congrArg some (ren_open ?_ _ _ _)).symm; exact rfl) | (refine (congrArg some (AObj.ren_gE ?_ _ _)).symm; intro _; rfl))) rfl (v' := .t (.int .i64 0)) rfl (ob' := []) (by repeat' (first | exact (rfl : renOb _ [] = []) | refine renOb_cons rfl ?_ ?_ | exact rfl | exact ren_pls _ _ | (refine ren_open ?_ _ _ _; exact rfl) | (refine AObj.ren_gE ?_ _ _; intro _; rfl))) rfl rfl ?_
    refine fM rfl ?_
    refine gr rfl ?_
    refine fM rfl ?_
    refine a64G rfl rfl rfl rfl ?_
    refine s64G rfl rfl rfl rfl ?_
    refine fM rfl ?_
    refine gr rfl ?_
    refine fM rfl ?_
    have hq : (0 : Int) = IntKind.i64.wrap ((0 + n - 1).tdiv n) := by
      rw [Int.tdiv_eq_ediv_of_nonneg (by omega), Int.ediv_eq_zero_of_lt (by omega) (by omega)]; rfl
    rw [← hq]
    refine Mid.ungd rfl rfl rfl ?_
    refine Mid.callR [0, 1] (e3) rfl rfl rfl rfl (by repeat' (first | exact (rfl : stoBd _ [] = true) | refine stoBd_cons (Nat.le_of_ble_eq_true rfl) ?_ ?_ | exact (by first | rfl | (refine open_bd ?_ _ _; exact Nat.le_of_ble_eq_true rfl) | exact pls_bd _ _ | (refine gE_bd ?_ _; exact Nat.le_of_ble_eq_true rfl)))) (by repeat' (first | exact trivial | refine And.intro ?_ ?_ | exact rfl | exact (congrArg some (ren_pls _ _)).symm | (refine (congrArg some (ren_open ?_ _ _ _)).symm; exact rfl) | (refine (congrArg some (AObj.ren_gE ?_ _ _)).symm; intro _; rfl))) rfl (v' := .t (.int .i64 0)) rfl (ob' := []) (by repeat' (first | exact (rfl : renOb _ [] = []) | refine renOb_cons rfl ?_ ?_ | exact rfl | exact ren_pls _ _ | (refine ren_open ?_ _ _ _; exact rfl) | (refine AObj.ren_gE ?_ _ _; intro _; rfl))) rfl rfl ?_
    refine fM rfl ?_
    refine lMG rfl rfl rfl rfl ?_
    refine fM rfl ?_
    refine gr rfl ?_
    refine s64G rfl rfl rfl rfl ?_
    refine fM rfl ?_
    refine caG rfl rfl (fun hg => ⟨_, rfl, knows_ok H, rfl⟩) rfl rfl ?_
    refine fM rfl ?_
    refine Run.fin rfl (EndOk.go ?_); exact .t rfl
  obtain ⟨k0, hk0⟩ : ∃ k, l.length = k + 1 := ⟨l.length - 1, by have := List.length_pos_iff.2 hne; omega⟩
  refine rList l (fun i (B : List Val × List Int × Int) => match i with | 0 => { env := [(0, .t (.int .i64 n)), (1, .t (.lst (l.map Val.enc))), (5, .ptr 1 0), (7, .nils), (8, .nils), (9, .t (.int .i64 0))], s := ⟨[(0, .map false [] (some (0, []))), (1, .cells [.t (.int .i64 n), .mp 0, .t (.int .i64 0), .t (.int .i64 0)])], 2⟩ } | i + 1 => { env := [(0, .t (.int .i64 n)), (1, .t (.lst (l.map Val.enc))), (5, .ptr 1 0), (7, .own 9 5 (B.1.map Val.enc)), (8, .nils), (9, .t (.int .i64 ((i + 1) : Nat)))], s := ⟨[(0, .map false [([.int .i64 3], .ptr 4 0)] none), (1, .cells [.t (.int .i64 n), .mp 0, .t (.int .i64 0), .t (.int .i64 B.2.2)]), (3, .map false [] none), (4, .cells [.own 8 1 (B.2.1.map nE), .gsl 7 (pl (psN B.1 0)).length 0 (pl (psN B.1 0)).length 1, .t (.int .i64 0), .mp 3]), (5, .fobs ((psN B.1 0).map Pl.cs)), (7, .gro (pl (psN B.1 0)).length (gE (pE 5) (pl (psN B.1 0)))), (8, .arr B.2.1.length), (9, .arr B.1.length)], 10⟩ }) (fun r i B => i ≠ 0 → Tk (l.take i) B.1 B.2.1 B.2.2) 2 ([], [], 0) rfl (by simp) rfl rfl rfl ?_ ?_
  · rintro ⟨D, tk, s⟩ hinv
    have hT := hinv (by omega)
    rw [List.take_length] at hT
    dsimp only at hT
    rw [hk0]
    dsimp only
    have hDk : ∀ v, v ∈ D → v.Ok := fun v hv => ho v (hT.sub v hv)
    have hsv := hT.sv
    have hle := hT.le
    have htl := hT.len
    have hDl : D.length ≤ 100 := by omega
    obtain ⟨m, hm⟩ : ∃ m : Nat, n = m := ⟨n.toNat, by omega⟩
    have hm0 : 0 < m := by omega
    refine fR rfl ?_
    refine lM rfl rfl rfl ?_
    refine fM rfl ?_
    refine Run.condF rfl rfl (by simp; omega) ?_
    refine fR rfl ?_
    refine rLoopM (fun (B : Nat × Nat) => { env := [(0, .t (.int .i64 n)), (1, .t (.lst (l.map Val.enc))), (5, .ptr 1 0), (7, .own 9 5 (D.map Val.enc)), (8, .own 10 5 ((D.take B.2).map Val.enc)), (12, .t (.int .i64 (B.1 : Nat)))], s := ⟨[(0, .map false [([.int .i64 3], .ptr 4 0)] none), (1, .cells [.t (.int .i64 n), .mp 0, .t (.int .i64 (B.1 : Nat)), .t (.int .i64 s)]), (3, .map false [] none), (4, .cells [.own 8 1 (tk.map nE), .gsl 7 (pl (psN D B.2)).length 0 (pl (psN D B.2)).length 1, .t (.int .i64 (B.2 : Nat)), .mp 3]), (5, .fobs ((psN D B.2).map Pl.cs)), (7, .gro (pl (psN D B.2)).length (gE (pE 5) (pl (psN D B.2)))), (8, .arr tk.length), (9, .arr D.length), (10, .arr (D.take B.2).length)], 11⟩ }) (fun B => B.1 ≤ D.length ∧ B.2 = min (B.1 * m) D.length ∧ (B.1 = 0 ∨ (B.1 - 1) * m < D.length)) (fun B => D.length + 1 - B.1) 10 (0, 0) rfl ⟨by simp, by simp, .inl rfl⟩ rfl rfl rfl ?_ (he := (by repeat' (first | exact trivial | exact LeX.t | exact LeX.top | exact LeX.nilOwn (Nat.le_of_ble_eq_true rfl) (Nat.le_of_ble_eq_true rfl) | exact LeX.ownT | exact LeX.nilT | exact LeX.same rfl | exact LeX.tEq (by simp) | exact LeX.ownEq (by simp) (Nat.le_of_ble_eq_true rfl) | exact LeX.tEq (by congr 1 <;> omega) | exact Or.inr ⟨Nat.le_of_ble_eq_true rfl, Nat.le_of_ble_eq_true rfl, rfl⟩ | refine Or.inl ⟨Nat.le_of_ble_eq_true rfl, _, rfl, ?_⟩ | refine LeO.cells ?_ | exact LeO.arr rfl | exact LeO.arr (by simp) | exact LeO.mE (by first | rfl | simp) (by first | exact Or.inl rfl | exact Or.inr rfl) | exact LeO.cE (by first | rfl | simp) | exact LeXs.cE (by first | rfl | simp) | refine LeO.map (by first | rfl | simp) ?_ (by first | exact Or.inl rfl | exact Or.inr rfl) | exact LeO.iter (by first | rfl | simp) (Nat.le_of_ble_eq_true rfl) | refine LeXs.cons ?_ ?_ | exact LeXs.nil | refine And.intro ?_ ?_))) (hs := (by repeat' (first | exact trivial | refine And.intro ?_ ?_ | exact Or.inl ⟨(Nat.le_of_ble_eq_true rfl), _, rfl, LeO.arr (by simp)⟩ | exact Or.inr ⟨Nat.le_of_ble_eq_true rfl, Nat.le_of_ble_eq_true rfl, rfl⟩ | exact Or.inl ⟨(Nat.le_of_ble_eq_true rfl), _, rfl, AObj.leSame (by first | rfl | (refine open_bd ?_ _ _; exact Nat.le_of_ble_eq_true rfl) | exact pls_bd _ _ | (refine gE_bd ?_ _; exact Nat.le_of_ble_eq_true rfl))⟩)))
    rintro ⟨R, nx⟩ ⟨hR, hnx, hR2⟩ ih
    dsimp only at hR hnx hR2
    dsimp only
    have e1 := next_ok H n R s 3 nx tk (psN D nx) [([.int .i64 (3 : Int)], .ptr 4 0)] (by omega) ⟨hn1, hn2⟩ (by rw [psN_len]; omega) (by rw [psN_len]; omega) (psN_ok hDk) rfl rfl (fun m h => by simp [V.bds, V.bd]; omega)
    generalize hk : batch n nx (psN D nx) = k at e1
    have hk2 : k = min m (D.length - nx) := by rw [← hk, batch, psN_len, hm]; rfl
    rw [reps_psN, psN_len] at e1
    generalize hb : (D.drop nx).take k = b at e1
    have hbl : b.length = k := by rw [← hb]; simp; omega
    refine fR rfl ?_
    refine lM rfl rfl rfl ?_
    refine fM rfl ?_
    refine Run.condT rfl rfl (by simp; omega) ?_
    refine fR rfl ?_
    by_cases hend : nx = D.length
    · have hk3 : k = 0 := by omega
      rw [show decide (nx < D.length) = false by simp; omega, if_neg (by omega), show b = [] by rw [← List.length_eq_zero_iff]; omega, hk3] at e1
      refine Mid.callR [0, 1, 2, 3, 4, 5, 6, 7, 8] (e1) rfl rfl rfl rfl (by repeat' (first | exact (rfl : stoBd _ [] = true) | refine stoBd_cons (Nat.le_of_ble_eq_true rfl) ?_ ?_ | exact (by first | rfl | (refine open_bd ?_ _ _; exact Nat.le_of_ble_eq_true rfl) | exact pls_bd _ _ | (refine gE_bd ?_ _; exact Nat.le_of_ble_eq_true rfl)))) (by repeat' (first | exact trivial | refine And.intro ?_ ?_ | exact rfl | exact (congrArg some (ren_pls _ _)).symm | (refine (congrArg some (ren_open ?_ _ _ _)).symm; exact rfl) | (refine (congrArg some (AObj.ren_gE ?_ _ _)).symm; intro _; rfl))) rfl (v' := .tup [.t (.lst ([].map Val.enc)), .t (.bool false)]) rfl (ob' := [(1, .cells [.t (.int .i64 n), .mp 0, .t (.int .i64 R), .t (.int .i64 s)]), (3, .map false (openE 5 nx 0) none), (4, .cells [.own 8 1 (tk.map nE), .gsl 7 (pl (psN D nx)).length 0 (pl (psN D nx)).length 1, .t (.int .i64 nx), .mp 3])]) (by repeat' (first | exact (rfl : renOb _ [] = []) | refine renOb_cons rfl ?_ ?_ | exact rfl | exact ren_pls _ _ | (refine ren_open ?_ _ _ _; exact rfl) | (refine AObj.ren_gE ?_ _ _; intro _; rfl))) rfl rfl ?_
      refine fM rfl ?_
      refine Run.condT rfl rfl rfl ?_
      refine fR rfl ?_
      refine rList l (fun i (_ : Unit) => { env := [(0, .t (.int .i64 n)), (1, .t (.lst (l.map Val.enc))), (5, .ptr 1 0), (7, .own 9 5 (D.map Val.enc)), (8, .own 10 5 ((D.take nx).map Val.enc)), (17, .t (.int .i64 (i : Nat)))], s := ⟨[(0, .map false [([.int .i64 3], .ptr 4 0)] none), (1, .cells [.t (.int .i64 n), .mp 0, .t (.int .i64 (R : Nat)), .t (.int .i64 s)]), (3, .map false [] none), (4, .cells [.own 8 1 (tk.map nE), .gsl 7 (pl (psN D nx)).length 0 (pl (psN D nx)).length 1, .t (.int .i64 (nx : Nat)), .mp 3]), (5, .fobs ((psN D nx).map Pl.cs)), (7, .gro (pl (psN D nx)).length (gE (pE 5) (pl (psN D nx)))), (8, .arr tk.length), (9, .arr D.length), (10, .arr (D.take nx).length)], 11⟩ }) (fun r i _ => True) 11 () rfl trivial rfl rfl rfl ?_ ?_ (he := (by repeat' (first | exact trivial | exact LeX.t | exact LeX.top | exact LeX.nilOwn (Nat.le_of_ble_eq_true rfl) (Nat.le_of_ble_eq_true rfl) | exact LeX.ownT | exact LeX.nilT | exact LeX.same rfl | exact LeX.tEq (by simp) | exact LeX.ownEq (by simp) (Nat.le_of_ble_eq_true rfl) | exact LeX.tEq (by congr 1 <;> omega) | exact Or.inr ⟨Nat.le_of_ble_eq_true rfl, Nat.le_of_ble_eq_true rfl, rfl⟩ | refine Or.inl ⟨Nat.le_of_ble_eq_true rfl, _, rfl, ?_⟩ | refine LeO.cells ?_ | exact LeO.arr rfl | exact LeO.arr (by simp) | exact LeO.mE (by first | rfl | simp) (by first | exact Or.inl rfl | exact Or.inr rfl) | exact LeO.cE (by first | rfl | simp) | exact LeXs.cE (by first | rfl | simp) | refine LeO.map (by first | rfl | simp) ?_ (by first | exact Or.inl rfl | exact Or.inr rfl) | exact LeO.iter (by first | rfl | simp) (Nat.le_of_ble_eq_true rfl) | refine LeXs.cons ?_ ?_ | exact LeXs.nil | refine And.intro ?_ ?_))) (hs := (by repeat' (first | exact trivial | refine And.intro ?_ ?_ | exact Or.inl ⟨(Nat.le_of_ble_eq_true rfl), _, rfl, LeO.arr (by simp)⟩ | exact Or.inr ⟨Nat.le_of_ble_eq_true rfl, Nat.le_of_ble_eq_true rfl, rfl⟩ | exact Or.inl ⟨(Nat.le_of_ble_eq_true rfl), _, rfl, AObj.leSame (by first | rfl | (refine open_bd ?_ _ _; exact Nat.le_of_ble_eq_true rfl) | exact pls_bd _ _ | (refine gE_bd ?_ _; exact Nat.le_of_ble_eq_true rfl))⟩)))
      · rintro _ _
        have hR3 := rounds_eq hm0 (L := D.length) (R := R) (by omega) hR2
        have e2 := calls_ok H n R s (.map false [([.int .i64 (3 : Int)], .ptr 4 0)] none) [(3, .map false [] none), (4, .cells [.own 8 1 (tk.map nE), .gsl 7 (pl (psN D nx)).length 0 (pl (psN D nx)).length 1, .t (.int .i64 (nx : Nat)), .mp 3]), (5, .fobs ((psN D nx).map Pl.cs)), (7, .gro (pl (psN D nx)).length (gE (pE 5) (pl (psN D nx)))), (8, .arr tk.length)] (by repeat' (first | exact (rfl : stoBd _ [] = true) | refine stoBd_cons (Nat.le_of_ble_eq_true rfl) ?_ ?_ | exact (by first | rfl | (refine open_bd ?_ _ _; exact Nat.le_of_ble_eq_true rfl) | exact pls_bd _ _ | (refine gE_bd ?_ _; exact Nat.le_of_ble_eq_true rfl))))
        have e3 := saved_ok H n R s (.map false [([.int .i64 (3 : Int)], .ptr 4 0)] none) [(3, .map false [] none), (4, .cells [.own 8 1 (tk.map nE), .gsl 7 (pl (psN D nx)).length 0 (pl (psN D nx)).length 1, .t (.int .i64 (nx : Nat)), .mp 3]), (5, .fobs ((psN D nx).map Pl.cs)), (7, .gro (pl (psN D nx)).length (gE (pE 5) (pl (psN D nx)))), (8, .arr tk.length)] (by repeat' (first | exact (rfl : stoBd _ [] = true) | refine stoBd_cons (Nat.le_of_ble_eq_true rfl) ?_ ?_ | exact (by first | rfl | (refine open_bd ?_ _ _; exact Nat.le_of_ble_eq_true rfl) | exact pls_bd _ _ | (refine gE_bd ?_ _; exact Nat.le_of_ble_eq_true rfl))))
        have e4 := same_ok H (D.take nx) D (by simp; omega) (by omega) (fun v hv => hDk v (List.mem_of_mem_take hv)) hDk
        rw [show sameL (D.take nx) D = true by rw [hend, List.take_length]; exact sameL_refl D] at e4
        refine fR rfl ?_
        refine lM rfl rfl rfl ?_
        refine fM rfl ?_
        refine Run.condF rfl rfl (by simp) ?_
        refine fR rfl ?_
        refine Mid.call (e4) rfl rfl rfl rfl ?_
        refine fM rfl ?_
        rw [if_pos (by omega), ← hm] at hR3
        refine Mid.ungd rfl rfl rfl ?_
        refine Mid.callR [0, 1, 2, 3, 4, 5, 6, 7, 8] (e2) rfl rfl rfl rfl (by repeat' (first | exact (rfl : stoBd _ [] = true) | refine stoBd_cons (Nat.le_of_ble_eq_true rfl) ?_ ?_ | exact (by first | rfl | (refine open_bd ?_ _ _; exact Nat.le_of_ble_eq_true rfl) | exact pls_bd _ _ | (refine gE_bd ?_ _; exact Nat.le_of_ble_eq_true rfl)))) (by repeat' (first | exact trivial | refine And.intro ?_ ?_ | exact rfl | exact (congrArg some (ren_pls _ _)).symm | (refine (congrArg some (ren_open ?_ _ _ _)).symm; exact rfl) | (refine (congrArg some (AObj.ren_gE ?_ _ _)).symm; intro _; rfl))) rfl (v' := .t (.int .i64 (R : Nat))) rfl (ob' := []) (by repeat' (first | exact (rfl : renOb _ [] = []) | refine renOb_cons rfl ?_ ?_ | exact rfl | exact ren_pls _ _ | (refine ren_open ?_ _ _ _; exact rfl) | (refine AObj.ren_gE ?_ _ _; intro _; rfl))) rfl rfl ?_
        refine fM rfl ?_
        refine lMG rfl rfl rfl rfl ?_
        refine fM rfl ?_
        refine a64G rfl rfl rfl rfl ?_
        refine s64G rfl rfl rfl rfl ?_
        refine fM rfl ?_
        refine gr rfl ?_
        refine fM rfl ?_
        rw [hR3, beq_self_eq_true]
        refine Mid.ungd rfl rfl rfl ?_
        refine Mid.callR [0, 1, 2, 3, 4, 5, 6, 7, 8] (e3) rfl rfl rfl rfl (by repeat' (first | exact (rfl : stoBd _ [] = true) | refine stoBd_cons (Nat.le_of_ble_eq_true rfl) ?_ ?_ | exact (by first | rfl | (refine open_bd ?_ _ _; exact Nat.le_of_ble_eq_true rfl) | exact pls_bd _ _ | (refine gE_bd ?_ _; exact Nat.le_of_ble_eq_true rfl)))) (by repeat' (first | exact trivial | refine And.intro ?_ ?_ | exact rfl | exact (congrArg some (ren_pls _ _)).symm | (refine (congrArg some (ren_open ?_ _ _ _)).symm; exact rfl) | (refine (congrArg some (AObj.ren_gE ?_ _ _)).symm; intro _; rfl))) rfl (v' := .t (.int .i64 s)) rfl (ob' := []) (by repeat' (first | exact (rfl : renOb _ [] = []) | refine renOb_cons rfl ?_ ?_ | exact rfl | exact ren_pls _ _ | (refine ren_open ?_ _ _ _; exact rfl) | (refine AObj.ren_gE ?_ _ _; intro _; rfl))) rfl rfl ?_
        refine fM rfl ?_
        refine lMG rfl rfl rfl rfl ?_
        refine fM rfl ?_
        refine lMG rfl rfl rfl rfl ?_
        refine s64G rfl rfl rfl rfl ?_
        refine fM rfl ?_
        refine caG rfl rfl (fun hg => ⟨_, rfl, knows_ok H, rfl⟩) rfl rfl ?_
        refine fM rfl ?_
        refine Run.fin rfl (EndOk.go ?_); exact .t (by simp [hsv])
      · rintro i v r _ h1 hi hd _ ih2
        obtain ⟨a, x, ha, hx, hxv⟩ := hT.at_ i v h1
        have halt := (List.getElem?_eq_some_iff.1 hx).1
        have hvk := ho v (List.mem_of_getElem? h1)
        have hxk := hDk x (List.mem_of_getElem? hx)
        have e2 := take_ok H n R s 3 nx tk (psN D nx) [] [([.int .i64 (3 : Int)], .ptr 4 0)] i a ⟨x, mkL [x], true⟩ ha (by rw [psN_at, hx]; simp only [Option.map_some, plA]; rw [if_pos (by omega)]) ⟨hxk, mkL_k hxk⟩ (by rw [psN_len]; omega) (by omega) rfl rfl (fun m h => by simp [V.bds, V.bd]; omega) (fun _ _ => rfl)
        have e3 := mkL_ok H [v] (by simp) (by simpa using hvk)
        rw [show [v].map Val.enc = [v.cs] by simp [Val.enc_eq]] at e3
        have e4 := rsame_ok H (mkL [x]) (mkL [v]) (mkL_k hxk) (mkL_k hvk)
        rw [sameV_mkL, hxv] at e4
        refine fR rfl ?_
        refine lM rfl rfl rfl ?_
        refine fM rfl ?_
        refine Run.condT rfl rfl (by simp; omega) ?_
        refine fR rfl ?_
        refine Mid.callR [0, 1, 2, 3, 4, 5, 6, 7, 8] (e2) rfl rfl rfl rfl (by repeat' (first | exact (rfl : stoBd _ [] = true) | refine stoBd_cons (Nat.le_of_ble_eq_true rfl) ?_ ?_ | exact (by first | rfl | (refine open_bd ?_ _ _; exact Nat.le_of_ble_eq_true rfl) | exact pls_bd _ _ | (refine gE_bd ?_ _; exact Nat.le_of_ble_eq_true rfl)))) (by repeat' (first | exact trivial | refine And.intro ?_ ?_ | exact rfl | exact (congrArg some (ren_pls _ _)).symm | (refine (congrArg some (ren_open ?_ _ _ _)).symm; exact rfl) | (refine (congrArg some (AObj.ren_gE ?_ _ _)).symm; intro _; rfl))) rfl (v' := .tup [(mkL [x]).v, .t (.bool true)]) rfl (ob' := []) (by repeat' (first | exact (rfl : renOb _ [] = []) | refine renOb_cons rfl ?_ ?_ | exact rfl | exact ren_pls _ _ | (refine ren_open ?_ _ _ _; exact rfl) | (refine AObj.ren_gE ?_ _ _; intro _; rfl))) rfl rfl ?_
        refine fM rfl ?_
        refine Mid.elemMapCG (Val.enc_eq v) rfl rfl rfl rfl h1 rfl (by (repeat' (first | exact trivial | exact Bool.not_or_self _ | exact grd1 _ | exact grd2 _ | exact grd3 _ _ | exact grd4 _ _ | refine And.intro ?_ ?_ | exact rfl | (simp; done) | (simp <;> omega))); done) (by (repeat' (first | exact trivial | exact Bool.not_or_self _ | exact grd1 _ | exact grd2 _ | exact grd3 _ _ | exact grd4 _ _ | refine And.intro ?_ ?_ | exact rfl | (simp; done) | (simp <;> omega))); done) rfl ?_
        refine fM rfl ?_
        refine Mid.ungd rfl rfl rfl ?_
        refine Mid.bslP rfl rfl rfl ?_
        skip
        refine caG rfl rfl (fun hg => ⟨_, rfl, e3, rfl⟩) rfl rfl ?_
        skip
        refine caG rfl rfl (fun hg => ⟨_, rfl, e4, rfl⟩) rfl rfl ?_
        refine fM rfl ?_
        refine Run.condF rfl rfl rfl ?_
        refine fR rfl ?_
        refine aL rfl rfl rfl rfl rfl ?_
        refine fM rfl ?_
        exact rWeak 11 rfl (ih2 () trivial) rfl rfl rfl (he := (by repeat' (first | exact trivial | exact LeX.t | exact LeX.top | exact LeX.nilOwn (Nat.le_of_ble_eq_true rfl) (Nat.le_of_ble_eq_true rfl) | exact LeX.ownT | exact LeX.nilT | exact LeX.same rfl | exact LeX.tEq (by simp) | exact LeX.ownEq (by simp) (Nat.le_of_ble_eq_true rfl) | exact LeX.tEq (by congr 1 <;> omega) | exact Or.inr ⟨Nat.le_of_ble_eq_true rfl, Nat.le_of_ble_eq_true rfl, rfl⟩ | refine Or.inl ⟨Nat.le_of_ble_eq_true rfl, _, rfl, ?_⟩ | refine LeO.cells ?_ | exact LeO.arr rfl | exact LeO.arr (by simp) | exact LeO.mE (by first | rfl | simp) (by first | exact Or.inl rfl | exact Or.inr rfl) | exact LeO.cE (by first | rfl | simp) | exact LeXs.cE (by first | rfl | simp) | refine LeO.map (by first | rfl | simp) ?_ (by first | exact Or.inl rfl | exact Or.inr rfl) | exact LeO.iter (by first | rfl | simp) (Nat.le_of_ble_eq_true rfl) | refine LeXs.cons ?_ ?_ | exact LeXs.nil | refine And.intro ?_ ?_))) (hs := (by repeat' (first | exact trivial | refine And.intro ?_ ?_ | exact Or.inl ⟨(Nat.le_of_ble_eq_true rfl), _, rfl, LeO.arr (by simp)⟩ | exact Or.inr ⟨Nat.le_of_ble_eq_true rfl, Nat.le_of_ble_eq_true rfl, rfl⟩ | exact Or.inl ⟨(Nat.le_of_ble_eq_true rfl), _, rfl, AObj.leSame (by first | rfl | (refine open_bd ?_ _ _; exact Nat.le_of_ble_eq_true rfl) | exact pls_bd _ _ | (refine gE_bd ?_ _; exact Nat.le_of_ble_eq_true rfl))⟩)))
    · rw [show decide (nx < D.length) = true by simp; omega, if_pos (by omega)] at e1
      refine Mid.callR [0, 1, 2, 3, 4, 5, 6, 7, 8] (e1) rfl rfl rfl rfl (by repeat' (first | exact (rfl : stoBd _ [] = true) | refine stoBd_cons (Nat.le_of_ble_eq_true rfl) ?_ ?_ | exact (by first | rfl | (refine open_bd ?_ _ _; exact Nat.le_of_ble_eq_true rfl) | exact pls_bd _ _ | (refine gE_bd ?_ _; exact Nat.le_of_ble_eq_true rfl)))) (by repeat' (first | exact trivial | refine And.intro ?_ ?_ | exact rfl | exact (congrArg some (ren_pls _ _)).symm | (refine (congrArg some (ren_open ?_ _ _ _)).symm; exact rfl) | (refine (congrArg some (AObj.ren_gE ?_ _ _)).symm; intro _; rfl))) rfl (v' := .tup [.t (.lst (b.map Val.enc)), .t (.bool true)]) rfl (ob' := [(1, .cells [.t (.int .i64 n), .mp 0, .t (.int .i64 ((R + 1 : Nat) : Int)), .t (.int .i64 s)]), (3, .map false (openE 5 nx k) none), (4, .cells [.own 8 1 (tk.map nE), .gsl 7 (pl (psN D nx)).length 0 (pl (psN D nx)).length 1, .t (.int .i64 (nx + k : Nat)), .mp 3])]) (by repeat' (first | exact (rfl : renOb _ [] = []) | refine renOb_cons rfl ?_ ?_ | exact rfl | exact ren_pls _ _ | (refine ren_open ?_ _ _ _; exact rfl) | (refine AObj.ren_gE ?_ _ _; intro _; rfl))) rfl rfl ?_
      refine fM rfl ?_
      refine Run.condF rfl rfl rfl ?_
      refine fR rfl ?_
      have hbk : ∀ v, v ∈ b → v.Ok := fun v hv => hDk v (by rw [← hb] at hv; exact List.mem_of_mem_drop (List.mem_of_mem_take hv))
      refine rList b (fun i (C : List Val) => { env := [(0, .t (.int .i64 n)), (1, .t (.lst (l.map Val.enc))), (5, .ptr 1 0), (7, .own 9 5 (D.map Val.enc)), (8, .own 10 5 ((D.take nx).map Val.enc)), (12, .t (.int .i64 (R : Nat))), (13, .t (.lst (b.map Val.enc))), (15, .own 11 5 (C.map Val.enc)), (16, .t (.int .i64 (i : Nat)))], s := ⟨[(0, .map false [([.int .i64 3], .ptr 4 0)] none), (1, .cells [.t (.int .i64 n), .mp 0, .t (.int .i64 ((R + 1 : Nat) : Int)), .t (.int .i64 s)]), (3, .map false (openE 5 nx k) none), (4, .cells [.own 8 1 (tk.map nE), .gsl 7 (pl (psN D nx)).length 0 (pl (psN D nx)).length 1, .t (.int .i64 (nx + k : Nat)), .mp 3]), (5, .fobs ((psN D nx).map Pl.cs)), (7, .gro (pl (psN D nx)).length (gE (pE 5) (pl (psN D nx)))), (8, .arr tk.length), (9, .arr D.length), (10, .arr (D.take nx).length), (11, .arr C.length)], 12⟩ }) (fun r i C => C = (b.take i).map fun v => mkL [v]) 11 [] rfl rfl rfl rfl rfl ?_ ?_ (he := (by repeat' (first | exact trivial | exact LeX.t | exact LeX.top | exact LeX.nilOwn (Nat.le_of_ble_eq_true rfl) (Nat.le_of_ble_eq_true rfl) | exact LeX.ownT | exact LeX.nilT | exact LeX.same rfl | exact LeX.tEq (by simp) | exact LeX.ownEq (by simp) (Nat.le_of_ble_eq_true rfl) | exact LeX.tEq (by congr 1 <;> omega) | exact Or.inr ⟨Nat.le_of_ble_eq_true rfl, Nat.le_of_ble_eq_true rfl, rfl⟩ | refine Or.inl ⟨Nat.le_of_ble_eq_true rfl, _, rfl, ?_⟩ | refine LeO.cells ?_ | exact LeO.arr rfl | exact LeO.arr (by simp) | exact LeO.mE (by first | rfl | simp) (by first | exact Or.inl rfl | exact Or.inr rfl) | exact LeO.cE (by first | rfl | simp) | exact LeXs.cE (by first | rfl | simp) | refine LeO.map (by first | rfl | simp) ?_ (by first | exact Or.inl rfl | exact Or.inr rfl) | exact LeO.iter (by first | rfl | simp) (Nat.le_of_ble_eq_true rfl) | refine LeXs.cons ?_ ?_ | exact LeXs.nil | refine And.intro ?_ ?_))) (hs := (by repeat' (first | exact trivial | refine And.intro ?_ ?_ | exact Or.inl ⟨(Nat.le_of_ble_eq_true rfl), _, rfl, LeO.arr (by simp)⟩ | exact Or.inr ⟨Nat.le_of_ble_eq_true rfl, Nat.le_of_ble_eq_true rfl, rfl⟩ | exact Or.inl ⟨(Nat.le_of_ble_eq_true rfl), _, rfl, AObj.leSame (by first | rfl | (refine open_bd ?_ _ _; exact Nat.le_of_ble_eq_true rfl) | exact pls_bd _ _ | (refine gE_bd ?_ _; exact Nat.le_of_ble_eq_true rfl))⟩)))
      · rintro C hC
        rw [List.take_length] at hC
        refine fR rfl ?_
        refine lM rfl rfl rfl ?_
        refine fM rfl ?_
        refine Run.condF rfl rfl (by simp) ?_
        refine fR rfl ?_
        have hCl : C.length = k := by rw [hC]; simpa using hbl
        have hCk : ∀ v, v ∈ C → v.Ok := by
          intro v hv
          rw [hC] at hv
          obtain ⟨y, hy, rfl⟩ := List.mem_map.1 hv
          exact mkL_k (hbk y hy)
        have e5 := done_ok H n ((R + 1 : Nat) : Int) s 3 (nx + k) nx tk (psN D nx) C [([.int .i64 (3 : Int)], .ptr 4 0)] (by omega) hCk (by omega) (by rw [psN_len]; omega) (by rw [psN_len]; omega) (psN_ok hDk) rfl rfl (fun m h => by simp [V.bds, V.bd]; omega)
        rw [hCl, show setR (psN D nx) nx C = psN D (nx + k) by rw [hC, ← hb]; exact setR_psN D k nx (by omega)] at e5
        refine apM Val.enc (D.take nx) b rfl rfl rfl rfl rfl ?_ (hl := fun x => (congrArg List.length (Val.enc_eq x)).trans rfl) (h1 := by simp; omega) (h2 := by simp; omega)
        refine fM rfl ?_
        refine lM rfl rfl rfl ?_
        refine fM rfl ?_
        rw [show decide ((b.length : Int) > n) = false by simp; omega]
        refine Mid.ungd rfl rfl rfl ?_
        refine Mid.callR [0, 1, 2, 3, 4, 5, 6, 7, 8] (e5) rfl rfl rfl rfl (by repeat' (first | exact (rfl : stoBd _ [] = true) | refine stoBd_cons (Nat.le_of_ble_eq_true rfl) ?_ ?_ | exact (by first | rfl | (refine open_bd ?_ _ _; exact Nat.le_of_ble_eq_true rfl) | exact pls_bd _ _ | (refine gE_bd ?_ _; exact Nat.le_of_ble_eq_true rfl)))) (by repeat' (first | exact trivial | refine And.intro ?_ ?_ | exact rfl | exact (congrArg some (ren_pls _ _)).symm | (refine (congrArg some (ren_open ?_ _ _ _)).symm; exact rfl) | (refine (congrArg some (AObj.ren_gE ?_ _ _)).symm; intro _; rfl))) rfl (v' := .t (.int .i64 0)) rfl (ob' := [(3, .map false [] none), (4, .cells [.own 8 1 (tk.map nE), .gsl 7 (pl (psN D (nx + k))).length 0 (pl (psN D (nx + k))).length 1, .t (.int .i64 (nx + k : Nat)), .mp 3]), (5, .fobs ((psN D (nx + k)).map Pl.cs)), (7, .gro (pl (psN D (nx + k))).length (gE (pE 5) (pl (psN D (nx + k)))))]) (by repeat' (first | exact (rfl : renOb _ [] = []) | refine renOb_cons rfl ?_ ?_ | exact rfl | exact ren_pls _ _ | (refine ren_open ?_ _ _ _; exact rfl) | (refine AObj.ren_gE ?_ _ _; intro _; rfl))) rfl rfl ?_
        refine fM rfl ?_
        refine Run.condF rfl rfl rfl ?_
        refine fR rfl ?_
        refine aL rfl rfl rfl rfl rfl ?_
        refine fM rfl ?_
        have hsent : D.take nx ++ b = D.take (nx + k) := by rw [← hb, List.take_add]
        have hk1 : 0 < k := by omega
        have hRm : nx = R * m := by omega
        have hRm2 : R ≤ R * m := Nat.le_mul_of_pos_right R hm0
        have hRm3 : (R + 1) * m = R * m + m := Nat.succ_mul R m
        refine rWeak 11 rfl (ih (R + 1, nx + k) (by dsimp only; omega) ⟨by dsimp only; omega, by dsimp only; omega, .inr (by dsimp only; simp; omega)⟩) rfl rfl rfl (he := ?_) (hs := ?_)
        · repeat' (first | exact trivial | exact LeX.same rfl | exact LeX.t | exact LeX.ownEq (by rw [hsent]) (Nat.le_of_ble_eq_true rfl) | exact LeX.tEq (by simp) | refine And.intro ?_ ?_)
        · repeat' (first | exact trivial | refine And.intro ?_ ?_ | exact Or.inl ⟨Nat.le_of_ble_eq_true rfl, _, rfl, AObj.leSame (by first | rfl | (refine open_bd ?_ _ _; exact Nat.le_of_ble_eq_true rfl) | exact pls_bd _ _ | (refine gE_bd ?_ _; exact Nat.le_of_ble_eq_true rfl))⟩ | exact Or.inl ⟨Nat.le_of_ble_eq_true rfl, _, rfl, LeO.arr (by rw [hsent])⟩)
      · rintro i v r C h1 hi hd hC ih2
        have hvk := hbk v (List.mem_of_getElem? h1)
        have e3 := mkL_ok H [v] (by simp) (by simpa using hvk)
        rw [show [v].map Val.enc = [v.cs] by simp [Val.enc_eq]] at e3
        have hCl : C.length = i := by rw [hC]; simp; omega
        refine fR rfl ?_
        refine lM rfl rfl rfl ?_
        refine fM rfl ?_
        refine Run.condT rfl rfl (by simp; omega) ?_
        refine fR rfl ?_
        refine Mid.elemMapC (Val.enc_eq v) rfl rfl rfl h1 rfl rfl ?_
        refine fM rfl ?_
        refine Mid.call (e3) rfl rfl rfl rfl ?_
        refine fM rfl ?_
        refine apM Val.enc C [(mkL [v])] rfl (congrArg (fun c => some (T.lst [c])) (Val.enc_eq (mkL [v])).symm) rfl rfl rfl ?_ (hl := fun x => (congrArg List.length (Val.enc_eq x)).trans rfl)
        refine fM rfl ?_
        refine aL rfl rfl rfl rfl rfl ?_
        refine fM rfl ?_
        exact rWeak 12 rfl (ih2 (C ++ [mkL [v]]) (by rw [hC, List.take_add_one, h1]; simp)) rfl rfl rfl (he := (by repeat' (first | exact trivial | exact LeX.t | exact LeX.top | exact LeX.nilOwn (Nat.le_of_ble_eq_true rfl) (Nat.le_of_ble_eq_true rfl) | exact LeX.ownT | exact LeX.nilT | exact LeX.same rfl | exact LeX.tEq (by simp) | exact LeX.ownEq (by simp) (Nat.le_of_ble_eq_true rfl) | exact LeX.tEq (by congr 1 <;> omega) | exact Or.inr ⟨Nat.le_of_ble_eq_true rfl, Nat.le_of_ble_eq_true rfl, rfl⟩ | refine Or.inl ⟨Nat.le_of_ble_eq_true rfl, _, rfl, ?_⟩ | refine LeO.cells ?_ | exact LeO.arr rfl | exact LeO.arr (by simp) | exact LeO.mE (by first | rfl | simp) (by first | exact Or.inl rfl | exact Or.inr rfl) | exact LeO.cE (by first | rfl | simp) | exact LeXs.cE (by first | rfl | simp) | refine LeO.map (by first | rfl | simp) ?_ (by first | exact Or.inl rfl | exact Or.inr rfl) | exact LeO.iter (by first | rfl | simp) (Nat.le_of_ble_eq_true rfl) | refine LeXs.cons ?_ ?_ | exact LeXs.nil | refine And.intro ?_ ?_))) (hs := (by repeat' (first | exact trivial | refine And.intro ?_ ?_ | exact Or.inl ⟨(Nat.le_of_ble_eq_true rfl), _, rfl, LeO.arr (by simp)⟩ | exact Or.inr ⟨Nat.le_of_ble_eq_true rfl, Nat.le_of_ble_eq_true rfl, rfl⟩ | exact Or.inl ⟨(Nat.le_of_ble_eq_true rfl), _, rfl, AObj.leSame (by first | rfl | (refine open_bd ?_ _ _; exact Nat.le_of_ble_eq_true rfl) | exact pls_bd _ _ | (refine gE_bd ?_ _; exact Nat.le_of_ble_eq_true rfl))⟩)))
  · rintro i x r ⟨D, tk, s⟩ h1 hi hd hinv ih
    have hxk := ho x (List.mem_of_getElem? h1)
    have htk1 : l.take (i + 1) = l.take i ++ [x] := by rw [List.take_add_one, h1]; rfl
    cases i with
    | zero =>
      dsimp only
      have e0 := index_ok H [] x (by simp) (by simp) hxk
      refine fR rfl ?_
      refine lM rfl rfl rfl ?_
      refine fM rfl ?_
      refine Run.condT rfl rfl (by simp; omega) ?_
      refine fR rfl ?_
      refine Mid.elemMapC (Val.enc_eq x) rfl rfl rfl h1 rfl rfl ?_
      refine fM rfl ?_
      refine Mid.callR [0, 1] (add_first H n 0 0 3 (by decide) x hxk (some (0, []))) rfl rfl rfl rfl (by repeat' (first | exact (rfl : stoBd _ [] = true) | refine stoBd_cons (Nat.le_of_ble_eq_true rfl) ?_ ?_ | exact (by first | rfl | (refine open_bd ?_ _ _; exact Nat.le_of_ble_eq_true rfl) | exact pls_bd _ _ | (refine gE_bd ?_ _; exact Nat.le_of_ble_eq_true rfl)))) (by repeat' (first | exact trivial | refine And.intro ?_ ?_ | exact rfl | exact (congrArg some (ren_pls _ _)).symm | (refine (congrArg some (ren_open ?_ _ _ _)).symm; exact rfl) | (refine (congrArg some (AObj.ren_gE ?_ _ _)).symm; intro _; rfl))) rfl (v' := .tup [.t (.int .i64 0), .t (.int .i64 0)]) rfl (ob' := [(0, .map false [([.int .i64 3], .ptr 4 0)] none), (3, .map false [] none), (4, .cells [.own 8 1 ([(0 : Int)].map nE), .gsl 7 (pl (psN [x] 0)).length 0 (pl (psN [x] 0)).length 1, .t (.int .i64 0), .mp 3]), (5, .fobs ((psN [x] 0).map Pl.cs)), (7, .gro (pl (psN [x] 0)).length (gE (pE 5) (pl (psN [x] 0)))), (8, .arr [(0 : Int)].length)]) (by repeat' (first | exact (rfl : renOb _ [] = []) | refine renOb_cons rfl ?_ ?_ | exact rfl | exact ren_pls _ _ | (refine ren_open ?_ _ _ _; exact rfl) | (refine AObj.ren_gE ?_ _ _; intro _; rfl))) rfl rfl ?_
      refine fM rfl ?_
      refine Run.condF rfl rfl rfl ?_
      refine fR rfl ?_
      refine Mid.elemMapC (Val.enc_eq x) rfl rfl rfl h1 rfl rfl ?_
      refine fM rfl ?_
      refine Mid.call (e0) rfl rfl rfl rfl ?_
      refine fM rfl ?_
      refine Run.condT rfl rfl rfl ?_
      refine fR rfl ?_
      refine Mid.elemMapC (Val.enc_eq x) rfl rfl rfl h1 rfl rfl ?_
      refine fM rfl ?_
      refine apN Val.enc [x] rfl (congrArg (fun c => some (T.lst [c])) (Val.enc_eq x).symm) rfl ?_ (hl := fun x => (congrArg List.length (Val.enc_eq x)).trans rfl) (h1 := by simp) (h2 := by simp)
      refine fM rfl ?_
      refine a64 rfl rfl rfl ?_
      refine fM rfl ?_
      exact rWeak 10 rfl (ih ([x], [0], 0) (fun _ => by rw [htk1]; simpa using Tk.one x)) rfl rfl rfl (he := (by repeat' (first | exact trivial | exact LeX.t | exact LeX.top | exact LeX.nilOwn (Nat.le_of_ble_eq_true rfl) (Nat.le_of_ble_eq_true rfl) | exact LeX.ownT | exact LeX.nilT | exact LeX.same rfl | exact LeX.tEq (by simp) | exact LeX.ownEq (by simp) (Nat.le_of_ble_eq_true rfl) | exact LeX.tEq (by congr 1 <;> omega) | exact Or.inr ⟨Nat.le_of_ble_eq_true rfl, Nat.le_of_ble_eq_true rfl, rfl⟩ | refine Or.inl ⟨Nat.le_of_ble_eq_true rfl, _, rfl, ?_⟩ | refine LeO.cells ?_ | exact LeO.arr rfl | exact LeO.arr (by simp) | exact LeO.mE (by first | rfl | simp) (by first | exact Or.inl rfl | exact Or.inr rfl) | exact LeO.cE (by first | rfl | simp) | exact LeXs.cE (by first | rfl | simp) | refine LeO.map (by first | rfl | simp) ?_ (by first | exact Or.inl rfl | exact Or.inr rfl) | exact LeO.iter (by first | rfl | simp) (Nat.le_of_ble_eq_true rfl) | refine LeXs.cons ?_ ?_ | exact LeXs.nil | refine And.intro ?_ ?_))) (hs := (by repeat' (first | exact trivial | refine And.intro ?_ ?_ | exact Or.inl ⟨(Nat.le_of_ble_eq_true rfl), _, rfl, LeO.arr (by simp)⟩ | exact Or.inr ⟨Nat.le_of_ble_eq_true rfl, Nat.le_of_ble_eq_true rfl, rfl⟩ | exact Or.inl ⟨(Nat.le_of_ble_eq_true rfl), _, rfl, AObj.leSame (by first | rfl | (refine open_bd ?_ _ _; exact Nat.le_of_ble_eq_true rfl) | exact pls_bd _ _ | (refine gE_bd ?_ _; exact Nat.le_of_ble_eq_true rfl))⟩)))
    | succ i =>
      dsimp only
      have hT := hinv (by simp)
      have hDk : ∀ v, v ∈ D → v.Ok := fun v hv => ho v (List.mem_of_mem_take (hT.sub v hv))
      have hsv := hT.sv
      have hle := hT.le
      have htl := hT.len
      rw [List.length_take, Nat.min_eq_left (by omega)] at hsv hle htl
      dsimp only at hsv hle htl
      have hDl : D.length ≤ 100 := by omega
      have e0 := index_ok H D x (by omega) hDk hxk
      have e1 := add_ok H n 0 s 3 0 tk (psN D 0) [] [([.int .i64 (3 : Int)], .ptr 4 0)] (by decide) x hxk (by omega) (by omega) (by rw [psN_len]; omega) (psN_ok hDk) rfl rfl (fun m h => by simp [V.bds, V.bd]; omega) (fun _ _ => rfl)
      rw [addPs_psN] at e1
      have hP := hT.push x
      rw [← htk1] at hP
      refine fR rfl ?_
      refine lM rfl rfl rfl ?_
      refine fM rfl ?_
      refine Run.condT rfl rfl (by simp; omega) ?_
      refine fR rfl ?_
      refine Mid.elemMapC (Val.enc_eq x) rfl rfl rfl h1 rfl rfl ?_
      refine fM rfl ?_
      generalize (addAt (psN D 0) x : Int) = at_ at e1 hP
      generalize s + addS (psN D 0) x = s2 at e1 hP
      refine Mid.callR [0, 1, 2, 3, 4, 5, 6, 7, 8] (e1) rfl rfl rfl rfl (by repeat' (first | exact (rfl : stoBd _ [] = true) | refine stoBd_cons (Nat.le_of_ble_eq_true rfl) ?_ ?_ | exact (by first | rfl | (refine open_bd ?_ _ _; exact Nat.le_of_ble_eq_true rfl) | exact pls_bd _ _ | (refine gE_bd ?_ _; exact Nat.le_of_ble_eq_true rfl)))) (by repeat' (first | exact trivial | refine And.intro ?_ ?_ | exact rfl | exact (congrArg some (ren_pls _ _)).symm | (refine (congrArg some (ren_open ?_ _ _ _)).symm; exact rfl) | (refine (congrArg some (AObj.ren_gE ?_ _ _)).symm; intro _; rfl))) rfl (v' := .tup [.t (.int .i64 tk.length), .t (.int .i64 0)]) rfl (ob' := [(1, .cells [.t (.int .i64 n), .mp 0, .t (.int .i64 0), .t (.int .i64 s2)]), (4, .cells [.own 8 1 ((tk ++ [at_]).map nE), .gsl 7 (pl (psN (addD D x) 0)).length 0 (pl (psN (addD D x) 0)).length 1, .t (.int .i64 0), .mp 3]), (5, .fobs ((psN (addD D x) 0).map Pl.cs)), (7, .gro (pl (psN (addD D x) 0)).length (gE (pE 5) (pl (psN (addD D x) 0)))), (8, .arr (tk ++ [at_]).length)]) (by repeat' (first | exact (rfl : renOb _ [] = []) | refine renOb_cons rfl ?_ ?_ | exact rfl | exact ren_pls _ _ | (refine ren_open ?_ _ _ _; exact rfl) | (refine AObj.ren_gE ?_ _ _; intro _; rfl))) rfl rfl ?_
      refine fM rfl ?_
      refine Run.condF rfl rfl (by simp; omega) ?_
      refine fR rfl ?_
      refine Mid.elemMapC (Val.enc_eq x) rfl rfl rfl h1 rfl rfl ?_
      refine fM rfl ?_
      refine Mid.call (e0) rfl rfl rfl rfl ?_
      refine fM rfl ?_
      cases hix : (idx D x).isSome with
      | true =>
        rw [show addD D x = D by simp [addD, hix]] at hP ⊢
        refine Run.condF rfl rfl (by simp [idxI_neg, hix]) ?_
        refine fR rfl ?_
        refine aL rfl rfl rfl rfl rfl ?_
        refine fM rfl ?_
        exact rWeak 10 rfl (ih (D, tk ++ [at_], s2) (fun _ => hP)) rfl rfl rfl (he := (by repeat' (first | exact trivial | exact LeX.t | exact LeX.top | exact LeX.nilOwn (Nat.le_of_ble_eq_true rfl) (Nat.le_of_ble_eq_true rfl) | exact LeX.ownT | exact LeX.nilT | exact LeX.same rfl | exact LeX.tEq (by simp) | exact LeX.ownEq (by simp) (Nat.le_of_ble_eq_true rfl) | exact LeX.tEq (by congr 1 <;> omega) | exact Or.inr ⟨Nat.le_of_ble_eq_true rfl, Nat.le_of_ble_eq_true rfl, rfl⟩ | refine Or.inl ⟨Nat.le_of_ble_eq_true rfl, _, rfl, ?_⟩ | refine LeO.cells ?_ | exact LeO.arr rfl | exact LeO.arr (by simp) | exact LeO.mE (by first | rfl | simp) (by first | exact Or.inl rfl | exact Or.inr rfl) | exact LeO.cE (by first | rfl | simp) | exact LeXs.cE (by first | rfl | simp) | refine LeO.map (by first | rfl | simp) ?_ (by first | exact Or.inl rfl | exact Or.inr rfl) | exact LeO.iter (by first | rfl | simp) (Nat.le_of_ble_eq_true rfl) | refine LeXs.cons ?_ ?_ | exact LeXs.nil | refine And.intro ?_ ?_))) (hs := (by repeat' (first | exact trivial | refine And.intro ?_ ?_ | exact Or.inl ⟨(Nat.le_of_ble_eq_true rfl), _, rfl, LeO.arr (by simp)⟩ | exact Or.inr ⟨Nat.le_of_ble_eq_true rfl, Nat.le_of_ble_eq_true rfl, rfl⟩ | exact Or.inl ⟨(Nat.le_of_ble_eq_true rfl), _, rfl, AObj.leSame (by first | rfl | (refine open_bd ?_ _ _; exact Nat.le_of_ble_eq_true rfl) | exact pls_bd _ _ | (refine gE_bd ?_ _; exact Nat.le_of_ble_eq_true rfl))⟩)))
      | false =>
        rw [show addD D x = D ++ [x] by simp [addD, hix]] at hP ⊢
        refine Run.condT rfl rfl (by simp [idxI_neg, hix]) ?_
        refine fR rfl ?_
        refine Mid.elemMapC (Val.enc_eq x) rfl rfl rfl h1 rfl rfl ?_
        refine fM rfl ?_
        refine apM Val.enc D [x] rfl (congrArg (fun c => some (T.lst [c])) (Val.enc_eq x).symm) rfl rfl rfl ?_ (hl := fun x => (congrArg List.length (Val.enc_eq x)).trans rfl)
        refine fM rfl ?_
        refine aL rfl rfl rfl rfl rfl ?_
        refine fM rfl ?_
        exact rWeak 10 rfl (ih (D ++ [x], tk ++ [at_], s2) (fun _ => hP)) rfl rfl rfl (he := (by repeat' (first | exact trivial | exact LeX.t | exact LeX.top | exact LeX.nilOwn (Nat.le_of_ble_eq_true rfl) (Nat.le_of_ble_eq_true rfl) | exact LeX.ownT | exact LeX.nilT | exact LeX.same rfl | exact LeX.tEq (by simp) | exact LeX.ownEq (by simp) (Nat.le_of_ble_eq_true rfl) | exact LeX.tEq (by congr 1 <;> omega) | exact Or.inr ⟨Nat.le_of_ble_eq_true rfl, Nat.le_of_ble_eq_true rfl, rfl⟩ | refine Or.inl ⟨Nat.le_of_ble_eq_true rfl, _, rfl, ?_⟩ | refine LeO.cells ?_ | exact LeO.arr rfl | exact LeO.arr (by simp) | exact LeO.mE (by first | rfl | simp) (by first | exact Or.inl rfl | exact Or.inr rfl) | exact LeO.cE (by first | rfl | simp) | exact LeXs.cE (by first | rfl | simp) | refine LeO.map (by first | rfl | simp) ?_ (by first | exact Or.inl rfl | exact Or.inr rfl) | exact LeO.iter (by first | rfl | simp) (Nat.le_of_ble_eq_true rfl) | refine LeXs.cons ?_ ?_ | exact LeXs.nil | refine And.intro ?_ ?_))) (hs := (by repeat' (first | exact trivial | refine And.intro ?_ ?_ | exact Or.inl ⟨(Nat.le_of_ble_eq_true rfl), _, rfl, LeO.arr (by simp)⟩ | exact Or.inr ⟨Nat.le_of_ble_eq_true rfl, Nat.le_of_ble_eq_true rfl, rfl⟩ | exact Or.inl ⟨(Nat.le_of_ble_eq_true rfl), _, rfl, AObj.leSame (by first | rfl | (refine open_bd ?_ _ _; exact Nat.le_of_ble_eq_true rfl) | exact pls_bd _ _ | (refine gE_bd ?_ _; exact Nat.le_of_ble_eq_true rfl))⟩)))
end Go.GB.C35


/-
  L35N: chapter 35: shapes of the laws' arguments.
-/
namespace Go.GB.C35
open Go.GB
set_option linter.unusedSimpArgs false
set_option linter.unusedVariables false
theorem spV_ok {P : Program} {vt : TypeId} (hb : P.bytesOf vt = 80) (hs : shOf P (spV vt) 6 vt = some valSh) :
    ∀ e i n xs, spV vt e = some i → xs.length * P.bytesOf e ≤ reachBytes → xs.length ≤ maxLen → (∀ c ∈ xs, WT P n e c) → YA i (.lst xs) := by
  have hv := val_wt hb hs
  intro e i k xs he hr hl hc
  have := reach_le
  unfold spV at he
  split at he
  · rename_i e1; subst e1
    simp only [Option.some.injEq] at he; subst he
    obtain ⟨l, rfl, h3⟩ := choose_map (f := Val.enc) (Q := Val.Ok) xs fun c hcm => hv k c (hc c hcm)
    rw [hb] at hr
    exact ⟨l, rfl, by unfold B47; simp at hr; omega, h3⟩
  · cases he
theorem int_0 {c : List T} (h : Sh.oks YA [.int .i64] c) : ∃ n : Int, c = [.int .i64 n] ∧ -9223372036854775808 ≤ n ∧ n ≤ 9223372036854775807 := by
  obtain ⟨x, c, rfl, ⟨n, rfl, hw⟩, g1⟩ := Sh.oks_cons h
  obtain rfl := Sh.oks_nil g1
  refine ⟨n, rfl, ?_⟩
  have h1 : IntKind.i64.min = -9223372036854775808 := by decide
  have h2 : IntKind.i64.max = 9223372036854775807 := by decide
  simp [Lit.wf, h1, h2] at hw
  omega
theorem vals_0 {c : List T} (h : Sh.oks YA [.num 0] c) : ∃ l : List Val, c = [.lst (l.map Val.enc)] ∧ l.length * 80 ≤ 140737488355328 ∧ ∀ v, v ∈ l → v.Ok := by
  obtain ⟨x, c, rfl, ⟨l, rfl, h1, h2⟩, g1⟩ := Sh.oks_cons h
  obtain rfl := Sh.oks_nil g1
  exact ⟨l, rfl, by unfold B47 at h1; omega, h2⟩
end Go.GB.C35

