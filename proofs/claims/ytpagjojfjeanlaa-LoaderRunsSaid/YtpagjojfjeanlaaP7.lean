/-
  YtpagjojfjeanlaaP7: lemmas of this proof (part 7). No conditions.
-/
import Derived.Test.YtpagjojfjeanlaaP6
import Derived.Test.YtpagjojfjeanlaaP5

/-
  L36E: chapter 35: adding a representation, tickets as a growing array.
-/
namespace Go.GB.C35
open Go.GB
set_option linter.unusedSimpArgs false
set_option linter.unusedVariables false
set_option maxRecDepth 100000
set_option maxHeartbeats 16000000
variable {P : Program}
theorem add_okg (H : Pr P) (m c s f nx : Int) (tk : List Int) (ps : List Pl) (op es : List (List T × V)) (hf : 0 ≤ f) (v : Val) (hv : v.Ok) (hs : 0 ≤ s ∧ s < 1000000) (ht : tk.length < 1000000) (hpl : ps.length < 1000000) (hpo : ∀ p, p ∈ ps → p.Ok) (hk : keysOk [.int .i64] es = true) (hg : mget [.int .i64 f] es = some (.ptr 4 0)) (hb : ∀ k, 9 ≤ k → V.bds k (es.map (·.2)) = true) (hob : ∀ k, 9 ≤ k → V.bds k (op.map (·.2)) = true) : FnOk P 16 [.ptr 1 0, .t (.int .i64 f), v.v] ⟨[(0, .map false es none), (1, .cells [.t (.int .i64 m), .mp 0, .t (.int .i64 c), .t (.int .i64 s)]), (3, .map false op none), (4, .cells [.gsl 8 tk.length 0 tk.length 1, .gsl 7 (pl ps).length 0 (pl ps).length 1, .t (.int .i64 nx), .mp 3]), (5, .fobs (ps.map Pl.cs)), (7, .gro (pl ps).length (gE (pE 5) (pl ps))), (8, .gro tk.length (gE (gT nE) tk))], 9⟩ { v := .tup [.t (.int .i64 tk.length), .t (.int .i64 0)], ob := [(1, .cells [.t (.int .i64 m), .mp 0, .t (.int .i64 c), .t (.int .i64 (s + addS ps v))]), (3, .map false op none), (4, .cells [.gsl 8 (tk ++ [(addAt ps v : Int)]).length 0 (tk ++ [(addAt ps v : Int)]).length 1, .gsl 7 (pl (addPs ps v)).length 0 (pl (addPs ps v)).length 1, .t (.int .i64 nx), .mp 3]), (5, .fobs ((addPs ps v).map Pl.cs)), (7, .gro (pl (addPs ps v)).length (gE (pE 5) (pl (addPs ps v)))), (8, .gro (tk ++ [(addAt ps v : Int)]).length (gE (gT nE) (tk ++ [(addAt ps v : Int)])))], n := 0, rd := true } := by
  have hsb : stoBd 10 [(0, .map false es none), (1, .cells [.t (.int .i64 m), .mp 0, .t (.int .i64 c), .t (.int .i64 s)]), (3, .map false op none), (4, .cells [.gsl 8 tk.length 0 tk.length 1, .gsl 7 (pl ps).length 0 (pl ps).length 1, .t (.int .i64 nx), .mp 3]), (5, .fobs (ps.map Pl.cs)), (7, .gro (pl ps).length (gE (pE 5) (pl ps))), (8, .gro tk.length (gE (gT nE) tk)), (9, .cells [.t (.int .i64 v.kind), .t (.int .i64 v.int), .t (.str v.text), .t (.lst (v.items.map Val.enc)), .t (.lst (v.keys.map sE))])] = true := (by repeat' (first | exact (rfl : stoBd _ [] = true) | refine stoBd_cons (Nat.le_of_ble_eq_true rfl) ?_ ?_ | exact (by first | rfl | exact hb _ (Nat.le_of_ble_eq_true rfl) | exact hob _ (Nat.le_of_ble_eq_true rfl) | (refine open_bd ?_ _ _; exact Nat.le_of_ble_eq_true rfl) | exact pls_bd _ _ | exact V.bds_gE (gT_bds nE _) _ | (refine gE_bd ?_ _; exact Nat.le_of_ble_eq_true rfl))))
  have hR : fnd ps v = fnd (ps.drop 0) v := rfl
  refine FnOk.run H.i16 H.mixed rfl rfl ?_
  refine fR rfl ?_
  refine Mid.callS (none_gb H m c s _ _ hsb) rfl rfl hsb rfl ?_
  refine fM rfl ?_
  refine Run.condF rfl rfl rfl ?_
  refine fR rfl ?_
  refine Run.condF rfl rfl (by simp; omega) ?_
  refine fR rfl ?_
  refine Mid.lookV (.ptr 4 0) rfl rfl rfl rfl hk (by rw [hg]; rfl) rfl ?_
  refine fM rfl ?_
  refine Run.condF rfl rfl rfl ?_
  refine fR rfl ?_
  refine pu rfl ?_
  refine fM rfl ?_
  refine rList (pl ps) (fun i (_ : Unit) => { env := [(0, .ptr 1 0), (5, .ptr 9 0), (8, .ptr 4 0), (9, .t (.int .i64 (-1))), (38, .gsl 7 (pl ps).length 0 (pl ps).length 1), (39, .t (.int .i64 (pl ps).length)), (40, .t (.int .i64 i))], s := ⟨[(0, .map false es none), (1, .cells [.t (.int .i64 m), .mp 0, .t (.int .i64 c), .t (.int .i64 s)]), (3, .map false op none), (4, .cells [.gsl 8 tk.length 0 tk.length 1, .gsl 7 (pl ps).length 0 (pl ps).length 1, .t (.int .i64 nx), .mp 3]), (5, .fobs (ps.map Pl.cs)), (7, .gro (pl ps).length (gE (pE 5) (pl ps))), (8, .gro tk.length (gE (gT nE) tk)), (9, .cells [.t (.int .i64 v.kind), .t (.int .i64 v.int), .t (.str v.text), .t (.lst (v.items.map Val.enc)), .t (.lst (v.keys.map sE))])], 10⟩ }) (fun r i _ => fnd ps v = (fnd (ps.drop i) v).map (· + i)) 10 () rfl (by simp) rfl rfl rfl ?_ ?_ (he := (by repeat' (first | exact trivial | exact LeX.t | exact LeX.top | exact LeX.nilOwn (Nat.le_of_ble_eq_true rfl) (Nat.le_of_ble_eq_true rfl) | exact LeX.ownT | exact LeX.nilT | exact LeX.same rfl | exact LeX.tEq (by simp) | exact LeX.ownEq (by simp) (Nat.le_of_ble_eq_true rfl) | exact LeX.tEq (by congr 1 <;> omega) | exact Or.inr ⟨Nat.le_of_ble_eq_true rfl, Nat.le_of_ble_eq_true rfl, rfl⟩ | refine Or.inl ⟨Nat.le_of_ble_eq_true rfl, _, rfl, ?_⟩ | refine LeO.cells ?_ | exact LeO.arr rfl | exact LeO.arr (by simp) | exact LeO.mE (by first | rfl | simp) (by first | exact Or.inl rfl | exact Or.inr rfl) | exact LeO.cE (by first | rfl | simp) | exact LeXs.cE (by first | rfl | simp) | refine LeO.map (by first | rfl | simp) ?_ (by first | exact Or.inl rfl | exact Or.inr rfl) | exact LeO.iter (by first | rfl | simp) (Nat.le_of_ble_eq_true rfl) | refine LeXs.cons ?_ ?_ | exact LeXs.nil | refine And.intro ?_ ?_))) (hs := (by repeat' (first | exact trivial | refine And.intro ?_ ?_ | exact Or.inr ⟨Nat.le_of_ble_eq_true rfl, Nat.le_of_ble_eq_true rfl, rfl⟩ | exact Or.inl ⟨(Nat.le_of_ble_eq_true rfl), _, rfl, AObj.leSame (by first | rfl | exact hb _ (Nat.le_of_ble_eq_true rfl) | exact hob _ (Nat.le_of_ble_eq_true rfl) | (refine open_bd ?_ _ _; exact Nat.le_of_ble_eq_true rfl) | exact pls_bd _ _ | exact V.bds_gE (gT_bds nE _) _ | (refine gE_bd ?_ _; exact Nat.le_of_ble_eq_true rfl))⟩)))
  · intro _ hinv
    rw [pl_length, List.drop_length] at hinv
    simp [fnd] at hinv
    have hn : fnd ps v = none := by simpa [fnd] using hinv
    have e1 : addAt ps v = ps.length := by simp [addAt, hn]
    have e2 : addPs ps v = ps ++ [⟨v, Val.zero, false⟩] := by simp [addPs, hn]
    have e3 : addS ps v = 0 := by simp [addS, hn]
    rw [e1, e2, e3]
    refine fR rfl ?_
    refine Run.condF rfl rfl (by simp) ?_
    refine fR rfl ?_
    refine Run.condT rfl rfl rfl ?_
    refine fR rfl ?_
    refine pu rfl ?_
    refine fM rfl ?_
    refine Mid.call (copy_ok H v hv) rfl rfl rfl rfl ?_
    refine Mid.fast (f := 1) rfl (by (repeat' (first | exact trivial | exact Bool.not_or_self _ | exact grd1 _ | exact grd2 _ | exact grd3 _ _ | exact grd4 _ _ | refine And.intro ?_ ?_ | exact rfl | (simp; done) | (simp <;> omega))); done) ?_
    refine Mid.boxF (os := ps.map Pl.cs) 5 rfl rfl rfl rfl rfl ?_
    refine Mid.bslO (cs := [.fpt 5 (ps.map Pl.cs).length 0]) rfl rfl ?_
    refine Mid.appGG (pE 5) (pl ps) [(ps.map Pl.cs).length] rfl rfl rfl (fun _ => rfl) (fun _ => rfl) (by simp [pl_length]; omega) (by simp [pl_length]; omega) rfl ?_
    refine fM rfl ?_
    refine Mid.appGG (gT nE) tk [((pl ps).length : Int)] rfl rfl (addV_t rfl (fun _ => rfl)) (gT_cellOk _) (gT_length (fun _ => rfl)) (by first | omega | (simp; omega) | (simp; done)) (by first | omega | (simp; omega) | (simp; done)) rfl ?_
    refine fM rfl ?_
    refine pu rfl ?_
    refine p0 rfl ?_
    refine fM rfl ?_
    refine Run.fin rfl (EndOk.chg rfl rfl ?_ ?_)
    · exact .tup (.cons (.t (congrArg _ ((wrap64 (by first | omega | (simp; omega) | (simp; done)) (by first | omega | (simp; omega) | (simp; done))).trans (by simp)))) (.cons (.t rfl) .nil))
    · have eq : pl ps ++ [(ps.map Pl.cs).length] = pl (ps ++ [⟨v, Val.zero, false⟩]) := by rw [pl_push, List.length_map]
      have el : (pl ps).length + 1 = (pl (ps ++ [⟨v, Val.zero, false⟩])).length := by simp [pl_length]
      refine ⟨?_, ?_, ?_, ?_, ?_, ?_, ?_, trivial⟩
      · exact .inl ⟨(Nat.le_of_ble_eq_true rfl), _, rfl, AObj.leSame (by first | rfl | exact hb _ (Nat.le_of_ble_eq_true rfl) | exact hob _ (Nat.le_of_ble_eq_true rfl) | (refine open_bd ?_ _ _; exact Nat.le_of_ble_eq_true rfl) | exact pls_bd _ _ | exact V.bds_gE (gT_bds nE _) _ | (refine gE_bd ?_ _; exact Nat.le_of_ble_eq_true rfl))⟩
      · exact .inl ⟨Nat.le_of_ble_eq_true rfl, _, rfl, .cells (.cons .t (.cons (.same rfl) (.cons .t (.cons (.tEq (by simp)) .nil))))⟩
      · exact .inl ⟨(Nat.le_of_ble_eq_true rfl), _, rfl, AObj.leSame (by first | rfl | exact hb _ (Nat.le_of_ble_eq_true rfl) | exact hob _ (Nat.le_of_ble_eq_true rfl) | (refine open_bd ?_ _ _; exact Nat.le_of_ble_eq_true rfl) | exact pls_bd _ _ | exact V.bds_gE (gT_bds nE _) _ | (refine gE_bd ?_ _; exact Nat.le_of_ble_eq_true rfl))⟩
      · exact .inl ⟨Nat.le_of_ble_eq_true rfl, _, rfl, .cells (.cons (.gslEq (by simp) rfl (by simp) (Nat.le_of_ble_eq_true rfl)) (.cons (.gslEq el rfl (by rw [eq]) (Nat.le_of_ble_eq_true rfl)) (.cons .t (.cons (.same rfl) .nil))))⟩
      · exact .inl ⟨Nat.le_of_ble_eq_true rfl, _, rfl, .fobsPush (ps := ps.map Pl.cs) (by simp; rfl) rfl (pls_bd _ _) (.cons .t (.cons .t (.cons .t (.cons .t (.cons .t (.cons .t (.cons .t (.cons .t (.cons .nilT (.cons .nilT (.cons .t .nil)))))))))))⟩
      · exact .inl ⟨Nat.le_of_ble_eq_true rfl, _, rfl, .groE el (.gE eq fun x => rfl)⟩
      · exact .inl ⟨Nat.le_of_ble_eq_true rfl, _, rfl, .groE (by simp) (.gE (by simp [pl_length]) fun x => rfl)⟩
  · intro i x r _ g1 gi gd hinv ih
    obtain ⟨rfl, hlt⟩ := pl_at g1
    have hpos : 0 < (pl ps).length := by rw [pl_length]; omega
    obtain ⟨p, hp⟩ : ∃ p, ps[x]? = some p := ⟨_, List.getElem?_eq_getElem hlt⟩
    have hpk := hpo p (List.mem_of_getElem? hp)
    rw [fnd_at hp] at hinv
    refine fR rfl ?_
    refine Run.condT rfl rfl (by simp; omega) ?_
    refine fR rfl ?_
    refine pu rfl ?_
    refine Mid.ldG (x) 0 (sz := 1) rfl rfl (by omega) (by omega) (fun _ => rfl) (g1) rfl rfl ?_
    refine p0 rfl ?_
    refine p0 rfl ?_
    have hpc : (ps.map Pl.cs)[x]? = some p.cs := by simp [hp]
    refine Mid.fast (f := 1) rfl (by (repeat' (first | exact trivial | exact Bool.not_or_self _ | exact grd1 _ | exact grd2 _ | exact grd3 _ _ | exact grd4 _ _ | refine And.intro ?_ ?_ | exact rfl | (simp; done) | (simp <;> omega))); done) ?_
    refine Run.fast (f := 4) rfl (by (repeat' (first | exact trivial | exact Bool.not_or_self _ | exact grd1 _ | exact grd2 _ | exact grd3 _ _ | exact grd4 _ _ | refine And.intro ?_ ?_ | exact rfl | (simp; done) | (simp <;> omega))); done) ?_
    refine Mid.ldFA (cs := p.cs) rfl rfl hpc (by simp [Pl.cs]) rfl rfl ?_
    refine fM rfl ?_
    refine Mid.call (psame_ok H p.rep v hpk.r hv) rfl rfl rfl rfl ?_
    refine fM rfl ?_
    by_cases hsm : sameV p.rep v = true
    · rw [if_pos hsm] at hinv
      have hn : fnd ps v = some x := by simpa using hinv
      have e1 : addAt ps v = x := by simp [addAt, hn]
      have e2 : addPs ps v = ps := by simp [addPs, hn]
      have e3 : addS ps v = 1 := by simp [addS, hn]
      rw [e1, e2, e3]
      refine Run.condT rfl rfl (by simpa using hsm) ?_
      refine fR rfl ?_
      refine Run.condF rfl rfl (by simp) ?_
      refine fR rfl ?_
      refine a64 rfl rfl rfl ?_
      refine fM rfl ?_
      refine Mid.appGG (gT nE) tk [(x : Int)] rfl rfl (addV_t rfl (fun _ => rfl)) (gT_cellOk _) (gT_length (fun _ => rfl)) (by first | omega | (simp; omega) | (simp; done)) (by first | omega | (simp; omega) | (simp; done)) rfl ?_
      refine fM rfl ?_
      refine pu rfl ?_
      refine p0 rfl ?_
      refine fM rfl ?_
      refine Run.fin rfl (EndOk.chg rfl rfl ?_ ?_)
      · exact .tup (.cons (.t (congrArg _ ((wrap64 (by first | omega | (simp; omega) | (simp; done)) (by first | omega | (simp; omega) | (simp; done))).trans (by simp)))) (.cons (.t rfl) .nil))
      · refine ⟨?_, ?_, ?_, ?_, ?_, ?_, ?_, trivial⟩
        · exact .inl ⟨(Nat.le_of_ble_eq_true rfl), _, rfl, AObj.leSame (by first | rfl | exact hb _ (Nat.le_of_ble_eq_true rfl) | exact hob _ (Nat.le_of_ble_eq_true rfl) | (refine open_bd ?_ _ _; exact Nat.le_of_ble_eq_true rfl) | exact pls_bd _ _ | exact V.bds_gE (gT_bds nE _) _ | (refine gE_bd ?_ _; exact Nat.le_of_ble_eq_true rfl))⟩
        · exact .inl ⟨Nat.le_of_ble_eq_true rfl, _, rfl, .cells (.cons .t (.cons (.same rfl) (.cons .t (.cons (.tEq (by simp)) .nil))))⟩
        · exact .inl ⟨(Nat.le_of_ble_eq_true rfl), _, rfl, AObj.leSame (by first | rfl | exact hb _ (Nat.le_of_ble_eq_true rfl) | exact hob _ (Nat.le_of_ble_eq_true rfl) | (refine open_bd ?_ _ _; exact Nat.le_of_ble_eq_true rfl) | exact pls_bd _ _ | exact V.bds_gE (gT_bds nE _) _ | (refine gE_bd ?_ _; exact Nat.le_of_ble_eq_true rfl))⟩
        · exact .inl ⟨Nat.le_of_ble_eq_true rfl, _, rfl, .cells (.cons (.gslEq (by simp) rfl (by simp) (Nat.le_of_ble_eq_true rfl)) (.cons (.same rfl) (.cons .t (.cons (.same rfl) .nil))))⟩
        · exact .inl ⟨(Nat.le_of_ble_eq_true rfl), _, rfl, AObj.leSame (by first | rfl | exact hb _ (Nat.le_of_ble_eq_true rfl) | exact hob _ (Nat.le_of_ble_eq_true rfl) | (refine open_bd ?_ _ _; exact Nat.le_of_ble_eq_true rfl) | exact pls_bd _ _ | exact V.bds_gE (gT_bds nE _) _ | (refine gE_bd ?_ _; exact Nat.le_of_ble_eq_true rfl))⟩
        · exact .inl ⟨(Nat.le_of_ble_eq_true rfl), _, rfl, AObj.leSame (by first | rfl | exact hb _ (Nat.le_of_ble_eq_true rfl) | exact hob _ (Nat.le_of_ble_eq_true rfl) | (refine open_bd ?_ _ _; exact Nat.le_of_ble_eq_true rfl) | exact pls_bd _ _ | exact V.bds_gE (gT_bds nE _) _ | (refine gE_bd ?_ _; exact Nat.le_of_ble_eq_true rfl))⟩
        · exact .inl ⟨Nat.le_of_ble_eq_true rfl, _, rfl, .groE (by simp) (.gE (by simp [pl_length]) fun x => rfl)⟩
    · rw [if_neg hsm] at hinv
      refine Run.condF rfl rfl (by simpa using hsm) ?_
      refine fR rfl ?_
      refine aL rfl rfl rfl rfl rfl ?_
      refine fM rfl ?_
      have hi2 : fnd ps v = Option.map (fun y => y + (x + 1)) (fnd (ps.drop (x + 1)) v) := by
        rw [hinv, Option.map_map]; congr 1; funext y; simp; omega
      exact rWeak 10 rfl (ih () hi2) rfl rfl rfl (he := (by repeat' (first | exact trivial | exact LeX.t | exact LeX.top | exact LeX.nilOwn (Nat.le_of_ble_eq_true rfl) (Nat.le_of_ble_eq_true rfl) | exact LeX.ownT | exact LeX.nilT | exact LeX.same rfl | exact LeX.tEq (by simp) | exact LeX.ownEq (by simp) (Nat.le_of_ble_eq_true rfl) | exact LeX.tEq (by congr 1 <;> omega) | exact Or.inr ⟨Nat.le_of_ble_eq_true rfl, Nat.le_of_ble_eq_true rfl, rfl⟩ | refine Or.inl ⟨Nat.le_of_ble_eq_true rfl, _, rfl, ?_⟩ | refine LeO.cells ?_ | exact LeO.arr rfl | exact LeO.arr (by simp) | exact LeO.mE (by first | rfl | simp) (by first | exact Or.inl rfl | exact Or.inr rfl) | exact LeO.cE (by first | rfl | simp) | exact LeXs.cE (by first | rfl | simp) | refine LeO.map (by first | rfl | simp) ?_ (by first | exact Or.inl rfl | exact Or.inr rfl) | exact LeO.iter (by first | rfl | simp) (Nat.le_of_ble_eq_true rfl) | refine LeXs.cons ?_ ?_ | exact LeXs.nil | refine And.intro ?_ ?_))) (hs := (by repeat' (first | exact trivial | refine And.intro ?_ ?_ | exact Or.inr ⟨Nat.le_of_ble_eq_true rfl, Nat.le_of_ble_eq_true rfl, rfl⟩ | exact Or.inl ⟨(Nat.le_of_ble_eq_true rfl), _, rfl, AObj.leSame (by first | rfl | exact hb _ (Nat.le_of_ble_eq_true rfl) | exact hob _ (Nat.le_of_ble_eq_true rfl) | (refine open_bd ?_ _ _; exact Nat.le_of_ble_eq_true rfl) | exact pls_bd _ _ | exact V.bds_gE (gT_bds nE _) _ | (refine gE_bd ?_ _; exact Nat.le_of_ble_eq_true rfl))⟩)))
end Go.GB.C35


/-
  L36F: chapter 35: the next batch, tickets as a growing array.
-/
namespace Go.GB.C35
open Go.GB
set_option linter.unusedSimpArgs false
set_option linter.unusedVariables false
set_option maxRecDepth 100000
set_option maxHeartbeats 16000000
variable {P : Program}
theorem next_okg (H : Pr P) (m c s f : Int) (nx : Nat) (tk : List Int) (ps : List Pl) (es : List (List T × V)) (hc : 0 ≤ c ∧ c < 1000000) (hm : 1 ≤ m ∧ m ≤ 1024) (hpl : ps.length < 1000000) (hnx : nx ≤ ps.length) (hpo : ∀ p, p ∈ ps → p.Ok) (hk : keysOk [.int .i64] es = true) (hg : mget [.int .i64 f] es = some (.ptr 4 0)) (hb : ∀ k, 9 ≤ k → V.bds k (es.map (·.2)) = true) : FnOk P 17 [.ptr 1 0, .t (.int .i64 f)] ⟨[(0, .map false es none), (1, .cells [.t (.int .i64 m), .mp 0, .t (.int .i64 c), .t (.int .i64 s)]), (3, .map false [] none), (4, .cells [.gsl 8 tk.length 0 tk.length 1, .gsl 7 (pl ps).length 0 (pl ps).length 1, .t (.int .i64 nx), .mp 3]), (5, .fobs (ps.map Pl.cs)), (7, .gro (pl ps).length (gE (pE 5) (pl ps))), (8, .gro tk.length (gE (gT nE) tk))], 9⟩ { v := .tup [.t (.lst ((reps nx (batch m nx ps) ps).map Val.enc)), .t (.bool (decide (nx < ps.length)))], ob := [(1, .cells [.t (.int .i64 m), .mp 0, .t (.int .i64 (c + if nx < ps.length then 1 else 0)), .t (.int .i64 s)]), (3, .map false (openE 5 nx (batch m nx ps)) none), (4, .cells [.gsl 8 tk.length 0 tk.length 1, .gsl 7 (pl ps).length 0 (pl ps).length 1, .t (.int .i64 (nx + batch m nx ps : Nat)), .mp 3]), (5, .fobs (ps.map Pl.cs)), (7, .gro (pl ps).length (gE (pE 5) (pl ps))), (8, .gro tk.length (gE (gT nE) tk))], n := 0, rd := true } := by
  have hsa : stoBd 9 [(0, .map false es none), (1, .cells [.t (.int .i64 m), .mp 0, .t (.int .i64 c), .t (.int .i64 s)]), (3, .map false [] none), (4, .cells [.gsl 8 tk.length 0 tk.length 1, .gsl 7 (pl ps).length 0 (pl ps).length 1, .t (.int .i64 nx), .mp 3]), (5, .fobs (ps.map Pl.cs)), (7, .gro (pl ps).length (gE (pE 5) (pl ps))), (8, .gro tk.length (gE (gT nE) tk))] = true := (by repeat' (first | exact (rfl : stoBd _ [] = true) | refine stoBd_cons (Nat.le_of_ble_eq_true rfl) ?_ ?_ | exact (by first | rfl | exact hb _ (Nat.le_of_ble_eq_true rfl) | exact hob _ (Nat.le_of_ble_eq_true rfl) | (refine open_bd ?_ _ _; exact Nat.le_of_ble_eq_true rfl) | exact pls_bd _ _ | exact V.bds_gE (gT_bds nE _) _ | (refine gE_bd ?_ _; exact Nat.le_of_ble_eq_true rfl))))
  generalize hk0 : batch m nx ps = k
  have hk1 : k ≤ m := by simp only [batch] at hk0; omega
  have hk2 : nx + k ≤ ps.length := by simp only [batch] at hk0; omega
  have hk3 : k = m ∨ nx + k = ps.length := by simp only [batch] at hk0; omega
  refine FnOk.run H.i17 H.mixed rfl rfl ?_
  refine fR rfl ?_
  refine Mid.callS (none_ga H m c s _ _ hsa) rfl rfl hsa rfl ?_
  refine fM rfl ?_
  refine Mid.lookVG (gc := true) (.ptr 4 0) rfl rfl rfl rfl rfl hk (by rw [hg]; rfl) ⟨rfl, trivial⟩ ⟨rfl, trivial⟩ rfl ?_
  refine fM rfl ?_
  refine Run.condF rfl rfl rfl ?_
  refine fR rfl ?_
  refine Mid.lookV (.ptr 4 0) rfl rfl rfl rfl hk (by rw [hg]; rfl) rfl ?_
  refine fM rfl ?_
  refine Mid.lenmV 0 rfl rfl rfl rfl ?_
  refine fM rfl ?_
  refine Run.condT rfl rfl rfl ?_
  skip
  refine rList (List.range k) (fun i (_ : Unit) => { env := [(0, .ptr 1 0), (6, .ptr 4 0)], s := ⟨[(0, .map false es none), (1, .cells [.t (.int .i64 m), .mp 0, .t (.int .i64 c), .t (.int .i64 s)]), (3, .map false (openE 5 nx i) none), (4, .cells [.gsl 8 tk.length 0 tk.length 1, .gsl 7 (pl ps).length 0 (pl ps).length 1, .t (.int .i64 (nx + i : Nat)), .mp 3]), (5, .fobs (ps.map Pl.cs)), (7, .gro (pl ps).length (gE (pE 5) (pl ps))), (8, .gro tk.length (gE (gT nE) tk))], 9⟩ }) (fun r i _ => True) 9 () rfl trivial rfl rfl rfl ?_ ?_ (he := (by repeat' (first | exact trivial | exact LeX.t | exact LeX.top | exact LeX.nilOwn (Nat.le_of_ble_eq_true rfl) (Nat.le_of_ble_eq_true rfl) | exact LeX.ownT | exact LeX.nilT | exact LeX.same rfl | exact LeX.tEq (by simp) | exact LeX.ownEq (by simp) (Nat.le_of_ble_eq_true rfl) | exact LeX.tEq (by congr 1 <;> omega) | exact Or.inr ⟨Nat.le_of_ble_eq_true rfl, Nat.le_of_ble_eq_true rfl, rfl⟩ | refine Or.inl ⟨Nat.le_of_ble_eq_true rfl, _, rfl, ?_⟩ | refine LeO.cells ?_ | exact LeO.arr rfl | exact LeO.arr (by simp) | exact LeO.mE (by first | rfl | simp) (by first | exact Or.inl rfl | exact Or.inr rfl) | exact LeO.cE (by first | rfl | simp) | exact LeXs.cE (by first | rfl | simp) | refine LeO.map (by first | rfl | simp) ?_ (by first | exact Or.inl rfl | exact Or.inr rfl) | exact LeO.iter (by first | rfl | simp) (Nat.le_of_ble_eq_true rfl) | refine LeXs.cons ?_ ?_ | exact LeXs.nil | refine And.intro ?_ ?_))) (hs := (by repeat' (first | exact trivial | refine And.intro ?_ ?_ | exact Or.inr ⟨Nat.le_of_ble_eq_true rfl, Nat.le_of_ble_eq_true rfl, rfl⟩ | exact Or.inl ⟨(Nat.le_of_ble_eq_true rfl), _, rfl, AObj.leSame (by first | rfl | exact hb _ (Nat.le_of_ble_eq_true rfl) | exact hob _ (Nat.le_of_ble_eq_true rfl) | (refine open_bd ?_ _ _; exact Nat.le_of_ble_eq_true rfl) | exact pls_bd _ _ | exact V.bds_gE (gT_bds nE _) _ | (refine gE_bd ?_ _; exact Nat.le_of_ble_eq_true rfl))⟩)))
  · intro _ hinv
    rw [List.length_range]
    refine fR rfl ?_
    refine Mid.lenmV k rfl rfl (open_len _ _ _) rfl ?_
    refine fM rfl ?_
    refine gr rfl ?_
    refine fM rfl ?_
    refine Run.condF rfl rfl (by simp [pl_length]; intro _; omega) ?_
    refine fR rfl ?_
    refine Mid.lenmV k rfl rfl (open_len _ _ _) rfl ?_
    refine fM rfl ?_
    by_cases hk9 : k = 0
    · refine Run.condT rfl rfl (by simp; omega) ?_
      refine fR rfl ?_
      have hn : nx = ps.length := by omega
      refine Run.fin rfl (EndOk.chg rfl rfl ?_ ?_)
      · exact .tup (.cons (.nil (by subst hk9; simp [reps])) (.cons (.t (by simp [hn])) .nil))
      · refine ⟨?_, ?_, ?_, ?_, ?_, ?_, ?_, trivial⟩
        · exact .inl ⟨(Nat.le_of_ble_eq_true rfl), _, rfl, AObj.leSame (by first | rfl | exact hb _ (Nat.le_of_ble_eq_true rfl) | exact hob _ (Nat.le_of_ble_eq_true rfl) | (refine open_bd ?_ _ _; exact Nat.le_of_ble_eq_true rfl) | exact pls_bd _ _ | exact V.bds_gE (gT_bds nE _) _ | (refine gE_bd ?_ _; exact Nat.le_of_ble_eq_true rfl))⟩
        · exact .inl ⟨Nat.le_of_ble_eq_true rfl, _, rfl, .cells (.cons .t (.cons (.same rfl) (.cons (.tEq (by simp [hn])) (.cons .t .nil))))⟩
        · exact .inl ⟨(Nat.le_of_ble_eq_true rfl), _, rfl, AObj.leSame (by first | rfl | exact hb _ (Nat.le_of_ble_eq_true rfl) | exact hob _ (Nat.le_of_ble_eq_true rfl) | (refine open_bd ?_ _ _; exact Nat.le_of_ble_eq_true rfl) | exact pls_bd _ _ | exact V.bds_gE (gT_bds nE _) _ | (refine gE_bd ?_ _; exact Nat.le_of_ble_eq_true rfl))⟩
        · exact .inl ⟨(Nat.le_of_ble_eq_true rfl), _, rfl, AObj.leSame (by first | rfl | exact hb _ (Nat.le_of_ble_eq_true rfl) | exact hob _ (Nat.le_of_ble_eq_true rfl) | (refine open_bd ?_ _ _; exact Nat.le_of_ble_eq_true rfl) | exact pls_bd _ _ | exact V.bds_gE (gT_bds nE _) _ | (refine gE_bd ?_ _; exact Nat.le_of_ble_eq_true rfl))⟩
        · exact .inl ⟨(Nat.le_of_ble_eq_true rfl), _, rfl, AObj.leSame (by first | rfl | exact hb _ (Nat.le_of_ble_eq_true rfl) | exact hob _ (Nat.le_of_ble_eq_true rfl) | (refine open_bd ?_ _ _; exact Nat.le_of_ble_eq_true rfl) | exact pls_bd _ _ | exact V.bds_gE (gT_bds nE _) _ | (refine gE_bd ?_ _; exact Nat.le_of_ble_eq_true rfl))⟩
        · exact .inl ⟨(Nat.le_of_ble_eq_true rfl), _, rfl, AObj.leSame (by first | rfl | exact hb _ (Nat.le_of_ble_eq_true rfl) | exact hob _ (Nat.le_of_ble_eq_true rfl) | (refine open_bd ?_ _ _; exact Nat.le_of_ble_eq_true rfl) | exact pls_bd _ _ | exact V.bds_gE (gT_bds nE _) _ | (refine gE_bd ?_ _; exact Nat.le_of_ble_eq_true rfl))⟩
        · exact .inl ⟨(Nat.le_of_ble_eq_true rfl), _, rfl, AObj.leSame (by first | rfl | exact hb _ (Nat.le_of_ble_eq_true rfl) | exact hob _ (Nat.le_of_ble_eq_true rfl) | (refine open_bd ?_ _ _; exact Nat.le_of_ble_eq_true rfl) | exact pls_bd _ _ | exact V.bds_gE (gT_bds nE _) _ | (refine gE_bd ?_ _; exact Nat.le_of_ble_eq_true rfl))⟩
    · have hl : (reps nx k ps).length = k := by simp [reps]; omega
      have hlt : nx < ps.length := by omega
      refine Run.condF rfl rfl (by simp; omega) ?_
      refine fR rfl ?_
      refine a64 rfl rfl rfl ?_
      refine fM rfl ?_
      refine Mid.lenmV k rfl rfl (open_len _ _ _) rfl ?_
      refine fM rfl ?_
      refine rList (reps nx k ps) (fun i (B : List Val) => { env := [(6, .ptr 4 0), (7, .own 9 5 (B.map Val.enc)), (97, .t (.int .i64 k)), (98, .t (.int .i64 i))], s := ⟨[(0, .map false es none), (1, .cells [.t (.int .i64 m), .mp 0, .t (.int .i64 (c + 1)), .t (.int .i64 s)]), (3, .map false (openE 5 nx k) none), (4, .cells [.gsl 8 tk.length 0 tk.length 1, .gsl 7 (pl ps).length 0 (pl ps).length 1, .t (.int .i64 (nx + k : Nat)), .mp 3]), (5, .fobs (ps.map Pl.cs)), (7, .gro (pl ps).length (gE (pE 5) (pl ps))), (8, .gro tk.length (gE (gT nE) tk)), (9, .arr B.length)], 10⟩ }) (fun r i B => B.length = i ∧ B ++ r = reps nx k ps) 9 [] rfl ⟨rfl, rfl⟩ rfl rfl rfl ?_ ?_ (hs := (by repeat' (first | exact trivial | refine And.intro ?_ ?_ | exact Or.inr ⟨Nat.le_of_ble_eq_true rfl, Nat.le_of_ble_eq_true rfl, rfl⟩ | exact Or.inl ⟨(Nat.le_of_ble_eq_true rfl), _, rfl, AObj.leSame (by first | rfl | exact hb _ (Nat.le_of_ble_eq_true rfl) | exact hob _ (Nat.le_of_ble_eq_true rfl) | (refine open_bd ?_ _ _; exact Nat.le_of_ble_eq_true rfl) | exact pls_bd _ _ | exact V.bds_gE (gT_bds nE _) _ | (refine gE_bd ?_ _; exact Nat.le_of_ble_eq_true rfl))⟩)))
      · rintro B ⟨hBl, hB⟩
        have e : B = reps nx k ps := by rw [← hB]; simp
        refine fR rfl ?_
        refine Run.condF rfl rfl (by simp; omega) ?_
        refine fR rfl ?_
        refine Run.fin rfl (EndOk.chg rfl rfl ?_ ?_)
        · exact .tup (.cons (.own (by rw [e])) (.cons (.t (by simp [hlt])) .nil))
        · refine ⟨?_, ?_, ?_, ?_, ?_, ?_, ?_, trivial⟩
          · exact .inl ⟨(Nat.le_of_ble_eq_true rfl), _, rfl, AObj.leSame (by first | rfl | exact hb _ (Nat.le_of_ble_eq_true rfl) | exact hob _ (Nat.le_of_ble_eq_true rfl) | (refine open_bd ?_ _ _; exact Nat.le_of_ble_eq_true rfl) | exact pls_bd _ _ | exact V.bds_gE (gT_bds nE _) _ | (refine gE_bd ?_ _; exact Nat.le_of_ble_eq_true rfl))⟩
          · exact .inl ⟨Nat.le_of_ble_eq_true rfl, _, rfl, .cells (.cons .t (.cons (.same rfl) (.cons (.tEq (by simp [hlt])) (.cons .t .nil))))⟩
          · exact .inl ⟨(Nat.le_of_ble_eq_true rfl), _, rfl, AObj.leSame (by first | rfl | exact hb _ (Nat.le_of_ble_eq_true rfl) | exact hob _ (Nat.le_of_ble_eq_true rfl) | (refine open_bd ?_ _ _; exact Nat.le_of_ble_eq_true rfl) | exact pls_bd _ _ | exact V.bds_gE (gT_bds nE _) _ | (refine gE_bd ?_ _; exact Nat.le_of_ble_eq_true rfl))⟩
          · exact .inl ⟨(Nat.le_of_ble_eq_true rfl), _, rfl, AObj.leSame (by first | rfl | exact hb _ (Nat.le_of_ble_eq_true rfl) | exact hob _ (Nat.le_of_ble_eq_true rfl) | (refine open_bd ?_ _ _; exact Nat.le_of_ble_eq_true rfl) | exact pls_bd _ _ | exact V.bds_gE (gT_bds nE _) _ | (refine gE_bd ?_ _; exact Nat.le_of_ble_eq_true rfl))⟩
          · exact .inl ⟨(Nat.le_of_ble_eq_true rfl), _, rfl, AObj.leSame (by first | rfl | exact hb _ (Nat.le_of_ble_eq_true rfl) | exact hob _ (Nat.le_of_ble_eq_true rfl) | (refine open_bd ?_ _ _; exact Nat.le_of_ble_eq_true rfl) | exact pls_bd _ _ | exact V.bds_gE (gT_bds nE _) _ | (refine gE_bd ?_ _; exact Nat.le_of_ble_eq_true rfl))⟩
          · exact .inl ⟨(Nat.le_of_ble_eq_true rfl), _, rfl, AObj.leSame (by first | rfl | exact hb _ (Nat.le_of_ble_eq_true rfl) | exact hob _ (Nat.le_of_ble_eq_true rfl) | (refine open_bd ?_ _ _; exact Nat.le_of_ble_eq_true rfl) | exact pls_bd _ _ | exact V.bds_gE (gT_bds nE _) _ | (refine gE_bd ?_ _; exact Nat.le_of_ble_eq_true rfl))⟩
          · exact .inl ⟨(Nat.le_of_ble_eq_true rfl), _, rfl, AObj.leSame (by first | rfl | exact hb _ (Nat.le_of_ble_eq_true rfl) | exact hob _ (Nat.le_of_ble_eq_true rfl) | (refine open_bd ?_ _ _; exact Nat.le_of_ble_eq_true rfl) | exact pls_bd _ _ | exact V.bds_gE (gT_bds nE _) _ | (refine gE_bd ?_ _; exact Nat.le_of_ble_eq_true rfl))⟩
      · rintro i v r B h1 hi hd ⟨hBl, hB⟩ ih
        have hBl' : B.length = i := hBl
        obtain ⟨p, hp, rfl, hik⟩ := reps_at h1
        have hpk := hpo p (List.mem_of_getElem? hp)
        have hpc : (ps.map Pl.cs)[nx + i]? = some p.cs := by simp [hp]
        refine fR rfl ?_
        refine Run.condT rfl rfl (by simp; omega) ?_
        refine fR rfl ?_
        refine Mid.lookV (.fpt 5 (nx + i) 0) rfl rfl rfl rfl (open_keys _ _ _) (by rw [mget_open hik]; rfl) rfl ?_
        refine Mid.fast (f := 2) rfl (by (repeat' (first | exact trivial | exact Bool.not_or_self _ | exact grd1 _ | exact grd2 _ | exact grd3 _ _ | exact grd4 _ _ | refine And.intro ?_ ?_ | exact rfl | (simp; done) | (simp <;> omega))); done) ?_
        refine Mid.ldFA (cs := p.cs) rfl rfl hpc (by simp [Pl.cs]) rfl rfl ?_
        skip
        refine Mid.call (copy_ok H p.rep hpk.r) rfl rfl rfl rfl ?_
        refine fM rfl ?_
        refine apM Val.enc B [p.rep] rfl (congrArg (fun c => some (T.lst [c])) (Val.enc_eq p.rep).symm) rfl rfl rfl ?_ (hl := fun x => (congrArg List.length (Val.enc_eq x)).trans rfl)
        refine fM rfl ?_
        refine aL rfl rfl rfl rfl rfl ?_
        refine fM rfl ?_
        exact rWeak 10 rfl (ih (B ++ [p.rep]) ⟨by simp; omega, by rw [← hB]; simp⟩) rfl rfl rfl (hs := (by repeat' (first | exact trivial | refine And.intro ?_ ?_ | exact Or.inl ⟨(Nat.le_of_ble_eq_true rfl), _, rfl, LeO.arr (by simp)⟩ | exact Or.inr ⟨Nat.le_of_ble_eq_true rfl, Nat.le_of_ble_eq_true rfl, rfl⟩ | exact Or.inl ⟨(Nat.le_of_ble_eq_true rfl), _, rfl, AObj.leSame (by first | rfl | exact hb _ (Nat.le_of_ble_eq_true rfl) | exact hob _ (Nat.le_of_ble_eq_true rfl) | (refine open_bd ?_ _ _; exact Nat.le_of_ble_eq_true rfl) | exact pls_bd _ _ | exact V.bds_gE (gT_bds nE _) _ | (refine gE_bd ?_ _; exact Nat.le_of_ble_eq_true rfl))⟩)))
  · intro i x r _ g1 gi gd hinv ih
    obtain ⟨rfl, _⟩ : x = i ∧ i < k := by
      obtain ⟨h1, h2⟩ := List.getElem?_eq_some_iff.1 g1
      simp only [List.getElem_range] at h2
      exact ⟨h2.symm, by simpa using h1⟩
    have hpos : 0 < (pl ps).length := by rw [pl_length]; omega
    have hix : nx + x < (pl ps).length := by rw [pl_length]; omega
    refine fR rfl ?_
    refine Mid.lenmV x rfl rfl (open_len _ _ _) rfl ?_
    refine fM rfl ?_
    refine gr rfl ?_
    refine fM rfl ?_
    refine Run.condT rfl rfl (by simp [pl_length]; omega) ?_
    refine fR rfl ?_
    refine Mid.lenmV x rfl rfl (open_len _ _ _) rfl ?_
    refine fM rfl ?_
    refine pu rfl ?_
    refine Mid.ldG ((nx + x)) 0 (sz := 1) rfl rfl (by omega) (by omega) (fun _ => rfl) (pl_some (by omega)) rfl rfl ?_
    skip
    refine Mid.mapV (es' := openE 5 nx (x + 1)) rfl rfl rfl (open_keys _ _ _) (mset_open _ _ _) rfl ?_
    refine fM rfl ?_
    refine aL rfl rfl rfl rfl rfl ?_
    refine fM rfl ?_
    exact rWeak 9 rfl (ih () trivial) rfl rfl rfl (he := (by repeat' (first | exact trivial | exact LeX.t | exact LeX.top | exact LeX.nilOwn (Nat.le_of_ble_eq_true rfl) (Nat.le_of_ble_eq_true rfl) | exact LeX.ownT | exact LeX.nilT | exact LeX.same rfl | exact LeX.tEq (by simp) | exact LeX.ownEq (by simp) (Nat.le_of_ble_eq_true rfl) | exact LeX.tEq (by congr 1 <;> omega) | exact Or.inr ⟨Nat.le_of_ble_eq_true rfl, Nat.le_of_ble_eq_true rfl, rfl⟩ | refine Or.inl ⟨Nat.le_of_ble_eq_true rfl, _, rfl, ?_⟩ | refine LeO.cells ?_ | exact LeO.arr rfl | exact LeO.arr (by simp) | exact LeO.mE (by first | rfl | simp) (by first | exact Or.inl rfl | exact Or.inr rfl) | exact LeO.cE (by first | rfl | simp) | exact LeXs.cE (by first | rfl | simp) | refine LeO.map (by first | rfl | simp) ?_ (by first | exact Or.inl rfl | exact Or.inr rfl) | exact LeO.iter (by first | rfl | simp) (Nat.le_of_ble_eq_true rfl) | refine LeXs.cons ?_ ?_ | exact LeXs.nil | refine And.intro ?_ ?_))) (hs := (by repeat' (first | exact trivial | refine And.intro ?_ ?_ | exact Or.inr ⟨Nat.le_of_ble_eq_true rfl, Nat.le_of_ble_eq_true rfl, rfl⟩ | exact Or.inl ⟨(Nat.le_of_ble_eq_true rfl), _, rfl, AObj.leSame (by first | rfl | exact hb _ (Nat.le_of_ble_eq_true rfl) | exact hob _ (Nat.le_of_ble_eq_true rfl) | (refine open_bd ?_ _ _; exact Nat.le_of_ble_eq_true rfl) | exact pls_bd _ _ | exact V.bds_gE (gT_bds nE _) _ | (refine gE_bd ?_ _; exact Nat.le_of_ble_eq_true rfl))⟩)))
end Go.GB.C35


/-
  L36G: chapter 35: the results of a batch, tickets as a growing array.
-/
namespace Go.GB.C35
open Go.GB
set_option linter.unusedSimpArgs false
set_option linter.unusedVariables false
set_option maxRecDepth 100000
set_option maxHeartbeats 16000000
variable {P : Program}
theorem done_okg (H : Pr P) (m c s f : Int) (nx lo : Nat) (tk : List Int) (ps : List Pl) (rs : List Val) (es : List (List T × V)) (hr0 : 0 < rs.length) (hrs : ∀ v, v ∈ rs → v.Ok) (hrl : rs.length < 1000000) (hpl : ps.length < 1000000) (hlo : lo + rs.length ≤ ps.length) (hpo : ∀ p, p ∈ ps → p.Ok) (hk : keysOk [.int .i64] es = true) (hg : mget [.int .i64 f] es = some (.ptr 4 0)) (hb : ∀ k, 9 ≤ k → V.bds k (es.map (·.2)) = true) : FnOk P 18 [.ptr 1 0, .t (.int .i64 f), .t (.lst (rs.map Val.enc))] ⟨[(0, .map false es none), (1, .cells [.t (.int .i64 m), .mp 0, .t (.int .i64 c), .t (.int .i64 s)]), (3, .map false (openE 5 lo rs.length) none), (4, .cells [.gsl 8 tk.length 0 tk.length 1, .gsl 7 (pl ps).length 0 (pl ps).length 1, .t (.int .i64 nx), .mp 3]), (5, .fobs (ps.map Pl.cs)), (7, .gro (pl ps).length (gE (pE 5) (pl ps))), (8, .gro tk.length (gE (gT nE) tk))], 9⟩ { v := .t (.int .i64 0), ob := [(1, .cells [.t (.int .i64 m), .mp 0, .t (.int .i64 c), .t (.int .i64 s)]), (3, .map false [] none), (4, .cells [.gsl 8 tk.length 0 tk.length 1, .gsl 7 (pl (setR ps lo rs)).length 0 (pl (setR ps lo rs)).length 1, .t (.int .i64 (nx : Nat)), .mp 3]), (5, .fobs ((setR ps lo rs).map Pl.cs)), (7, .gro (pl (setR ps lo rs)).length (gE (pE 5) (pl (setR ps lo rs)))), (8, .gro tk.length (gE (gT nE) tk))], n := 0, rd := true } := by
  have hsa : stoBd 9 [(0, .map false es none), (1, .cells [.t (.int .i64 m), .mp 0, .t (.int .i64 c), .t (.int .i64 s)]), (3, .map false (openE 5 lo rs.length) none), (4, .cells [.gsl 8 tk.length 0 tk.length 1, .gsl 7 (pl ps).length 0 (pl ps).length 1, .t (.int .i64 nx), .mp 3]), (5, .fobs (ps.map Pl.cs)), (7, .gro (pl ps).length (gE (pE 5) (pl ps))), (8, .gro tk.length (gE (gT nE) tk))] = true := (by repeat' (first | exact (rfl : stoBd _ [] = true) | refine stoBd_cons (Nat.le_of_ble_eq_true rfl) ?_ ?_ | exact (by first | rfl | exact hb _ (Nat.le_of_ble_eq_true rfl) | exact hob _ (Nat.le_of_ble_eq_true rfl) | (refine open_bd ?_ _ _; exact Nat.le_of_ble_eq_true rfl) | exact pls_bd _ _ | exact V.bds_gE (gT_bds nE _) _ | (refine gE_bd ?_ _; exact Nat.le_of_ble_eq_true rfl))))
  have hne : rs ≠ [] := by rintro rfl; simp at hr0
  refine FnOk.run H.i18 H.mixed rfl rfl ?_
  refine fR rfl ?_
  refine Mid.callS (none_ga H m c s _ _ hsa) rfl rfl hsa rfl ?_
  refine fM rfl ?_
  refine Run.condF rfl rfl rfl ?_
  refine fR rfl ?_
  refine Mid.lookV (.ptr 4 0) rfl rfl rfl rfl hk (by rw [hg]; rfl) rfl ?_
  refine fM rfl ?_
  refine Mid.lookVG (gc := true) (.ptr 4 0) rfl rfl rfl rfl rfl hk (by rw [hg]; rfl) ⟨rfl, trivial⟩ ⟨rfl, trivial⟩ rfl ?_
  refine fM rfl ?_
  refine Mid.ungd rfl rfl rfl ?_
  refine Mid.lenmV rs.length rfl rfl (open_len _ _ _) rfl ?_
  refine fM rfl ?_
  refine Run.condF rfl rfl (by simp [hne]) ?_
  refine fR rfl ?_
  refine Mid.lookV (.ptr 4 0) rfl rfl rfl rfl hk (by rw [hg]; rfl) rfl ?_
  refine fM rfl ?_
  refine lM rfl rfl rfl ?_
  refine fM rfl ?_
  refine Mid.lenmV rs.length rfl rfl (open_len _ _ _) rfl ?_
  refine fM rfl ?_
  refine Run.condF rfl rfl (by simp) ?_
  refine fR rfl ?_
  refine lM rfl rfl rfl ?_
  refine fM rfl ?_
  refine rList rs (fun i (B : List Pl) => { env := [(7, .ptr 4 0), (48, .t (.lst (rs.map Val.enc))), (49, .t (.int .i64 rs.length)), (50, .t (.int .i64 i))], s := ⟨[(0, .map false es none), (1, .cells [.t (.int .i64 m), .mp 0, .t (.int .i64 c), .t (.int .i64 s)]), (3, .map false (openE 5 lo rs.length) none), (4, .cells [.gsl 8 tk.length 0 tk.length 1, .gsl 7 (pl ps).length 0 (pl ps).length 1, .t (.int .i64 nx), .mp 3]), (5, .fobs (B.map Pl.cs)), (7, .gro (pl ps).length (gE (pE 5) (pl ps))), (8, .gro tk.length (gE (gT nE) tk))], 9⟩ }) (fun r i B => setR B (lo + i) r = setR ps lo rs ∧ pl B = pl ps ∧ ∀ p, p ∈ B → p.Ok) 9 ps rfl ⟨rfl, rfl, hpo⟩ rfl rfl rfl ?_ ?_ (he := (by repeat' (first | exact trivial | exact LeX.t | exact LeX.top | exact LeX.nilOwn (Nat.le_of_ble_eq_true rfl) (Nat.le_of_ble_eq_true rfl) | exact LeX.ownT | exact LeX.nilT | exact LeX.same rfl | exact LeX.tEq (by simp) | exact LeX.ownEq (by simp) (Nat.le_of_ble_eq_true rfl) | exact LeX.tEq (by congr 1 <;> omega) | exact Or.inr ⟨Nat.le_of_ble_eq_true rfl, Nat.le_of_ble_eq_true rfl, rfl⟩ | refine Or.inl ⟨Nat.le_of_ble_eq_true rfl, _, rfl, ?_⟩ | refine LeO.cells ?_ | exact LeO.arr rfl | exact LeO.arr (by simp) | exact LeO.mE (by first | rfl | simp) (by first | exact Or.inl rfl | exact Or.inr rfl) | exact LeO.cE (by first | rfl | simp) | exact LeXs.cE (by first | rfl | simp) | refine LeO.map (by first | rfl | simp) ?_ (by first | exact Or.inl rfl | exact Or.inr rfl) | exact LeO.iter (by first | rfl | simp) (Nat.le_of_ble_eq_true rfl) | refine LeXs.cons ?_ ?_ | exact LeXs.nil | refine And.intro ?_ ?_))) (hs := (by repeat' (first | exact trivial | refine And.intro ?_ ?_ | exact Or.inr ⟨Nat.le_of_ble_eq_true rfl, Nat.le_of_ble_eq_true rfl, rfl⟩ | exact Or.inl ⟨(Nat.le_of_ble_eq_true rfl), _, rfl, AObj.leSame (by first | rfl | exact hb _ (Nat.le_of_ble_eq_true rfl) | exact hob _ (Nat.le_of_ble_eq_true rfl) | (refine open_bd ?_ _ _; exact Nat.le_of_ble_eq_true rfl) | exact pls_bd _ _ | exact V.bds_gE (gT_bds nE _) _ | (refine gE_bd ?_ _; exact Nat.le_of_ble_eq_true rfl))⟩)))
  · rintro B ⟨e1, e2, e3⟩
    simp only [setR] at e1
    refine fR rfl ?_
    refine Run.condF rfl rfl (by simp) ?_
    refine fR rfl ?_
    refine Mid.clrV rfl rfl rfl ?_
    refine fM rfl ?_
    refine Run.fin rfl (EndOk.chg rfl rfl ?_ ?_)
    · exact .t rfl
    · refine ⟨?_, ?_, ?_, ?_, ?_, ?_, ?_, trivial⟩
      · exact .inl ⟨(Nat.le_of_ble_eq_true rfl), _, rfl, AObj.leSame (by first | rfl | exact hb _ (Nat.le_of_ble_eq_true rfl) | exact hob _ (Nat.le_of_ble_eq_true rfl) | (refine open_bd ?_ _ _; exact Nat.le_of_ble_eq_true rfl) | exact pls_bd _ _ | exact V.bds_gE (gT_bds nE _) _ | (refine gE_bd ?_ _; exact Nat.le_of_ble_eq_true rfl))⟩
      · exact .inl ⟨(Nat.le_of_ble_eq_true rfl), _, rfl, AObj.leSame (by first | rfl | exact hb _ (Nat.le_of_ble_eq_true rfl) | exact hob _ (Nat.le_of_ble_eq_true rfl) | (refine open_bd ?_ _ _; exact Nat.le_of_ble_eq_true rfl) | exact pls_bd _ _ | exact V.bds_gE (gT_bds nE _) _ | (refine gE_bd ?_ _; exact Nat.le_of_ble_eq_true rfl))⟩
      · exact .inl ⟨(Nat.le_of_ble_eq_true rfl), _, rfl, AObj.leSame (by first | rfl | exact hb _ (Nat.le_of_ble_eq_true rfl) | exact hob _ (Nat.le_of_ble_eq_true rfl) | (refine open_bd ?_ _ _; exact Nat.le_of_ble_eq_true rfl) | exact pls_bd _ _ | exact V.bds_gE (gT_bds nE _) _ | (refine gE_bd ?_ _; exact Nat.le_of_ble_eq_true rfl))⟩
      · exact .inl ⟨Nat.le_of_ble_eq_true rfl, _, rfl, by rw [pl_setR]; exact AObj.leSame rfl⟩
      · exact .inl ⟨Nat.le_of_ble_eq_true rfl, _, rfl, by rw [← e1]; exact AObj.leSame (pls_bd _ _)⟩
      · exact .inl ⟨Nat.le_of_ble_eq_true rfl, _, rfl, by rw [pl_setR]; exact AObj.leSame (by first | rfl | exact hb _ (Nat.le_of_ble_eq_true rfl) | exact hob _ (Nat.le_of_ble_eq_true rfl) | (refine open_bd ?_ _ _; exact Nat.le_of_ble_eq_true rfl) | exact pls_bd _ _ | exact V.bds_gE (gT_bds nE _) _ | (refine gE_bd ?_ _; exact Nat.le_of_ble_eq_true rfl))⟩
      · exact .inl ⟨(Nat.le_of_ble_eq_true rfl), _, rfl, AObj.leSame (by first | rfl | exact hb _ (Nat.le_of_ble_eq_true rfl) | exact hob _ (Nat.le_of_ble_eq_true rfl) | (refine open_bd ?_ _ _; exact Nat.le_of_ble_eq_true rfl) | exact pls_bd _ _ | exact V.bds_gE (gT_bds nE _) _ | (refine gE_bd ?_ _; exact Nat.le_of_ble_eq_true rfl))⟩
  · rintro i v r B h1 hi hd ⟨e1, e2, e3⟩ ih
    have hvk := hrs v (List.mem_of_getElem? h1)
    have hlen : B.length = ps.length := by rw [← pl_length B, e2, pl_length]
    obtain ⟨p, hp⟩ : ∃ p, B[lo + i]? = some p := ⟨_, List.getElem?_eq_getElem (by omega)⟩
    have hpc : (B.map Pl.cs)[lo + i]? = some p.cs := by simp [hp]
    refine fR rfl ?_
    refine Run.condT rfl rfl (by simp; omega) ?_
    refine fR rfl ?_
    refine Mid.elemMapC (Val.enc_eq v) rfl rfl rfl h1 rfl rfl ?_
    refine fM rfl ?_
    refine Mid.lookV (.fpt 5 (lo + i) 0) rfl rfl rfl rfl (open_keys _ _ _) (by rw [mget_open hi]; rfl) rfl ?_
    refine fM rfl ?_
    refine Mid.lookV (.fpt 5 (lo + i) 0) rfl rfl rfl rfl (open_keys _ _ _) (by rw [mget_open hi]; rfl) rfl ?_
    refine fM rfl ?_
    refine Mid.call (copy_ok H v hvk) rfl rfl rfl rfl ?_
    refine Mid.fast (f := 2) rfl (by (repeat' (first | exact trivial | exact Bool.not_or_self _ | exact grd1 _ | exact grd2 _ | exact grd3 _ _ | exact grd4 _ _ | refine And.intro ?_ ?_ | exact rfl | (simp; done) | (simp <;> omega))); done) ?_
    refine Mid.stF (os := B.map Pl.cs) (cs := p.cs) rfl rfl hpc rfl rfl (by simp [Pl.cs]) rfl rfl ?_
    refine Mid.fast (f := 2) rfl (by (repeat' (first | exact trivial | exact Bool.not_or_self _ | exact grd1 _ | exact grd2 _ | exact grd3 _ _ | exact grd4 _ _ | refine And.intro ?_ ?_ | exact rfl | (simp; done) | (simp <;> omega))); done) ?_
    have hlt : lo + i < (B.map Pl.cs).length := by simp; omega
    refine Mid.stF rfl rfl (List.getElem?_set_self hlt) rfl rfl (Nat.le_of_ble_eq_true rfl) rfl rfl ?_
    refine fM rfl ?_
    refine aL rfl rfl rfl rfl rfl ?_
    refine fM rfl ?_
    simp only [setR] at e1
    exact rWeak 9 rfl (ih (upd B (lo + i) v) ⟨e1, by rw [pl_upd, e2], upd_ok hvk e3⟩) rfl rfl rfl (he := (by repeat' (first | exact trivial | exact LeX.t | exact LeX.top | exact LeX.nilOwn (Nat.le_of_ble_eq_true rfl) (Nat.le_of_ble_eq_true rfl) | exact LeX.ownT | exact LeX.nilT | exact LeX.same rfl | exact LeX.tEq (by simp) | exact LeX.ownEq (by simp) (Nat.le_of_ble_eq_true rfl) | exact LeX.tEq (by congr 1 <;> omega) | exact Or.inr ⟨Nat.le_of_ble_eq_true rfl, Nat.le_of_ble_eq_true rfl, rfl⟩ | refine Or.inl ⟨Nat.le_of_ble_eq_true rfl, _, rfl, ?_⟩ | refine LeO.cells ?_ | exact LeO.arr rfl | exact LeO.arr (by simp) | exact LeO.mE (by first | rfl | simp) (by first | exact Or.inl rfl | exact Or.inr rfl) | exact LeO.cE (by first | rfl | simp) | exact LeXs.cE (by first | rfl | simp) | refine LeO.map (by first | rfl | simp) ?_ (by first | exact Or.inl rfl | exact Or.inr rfl) | exact LeO.iter (by first | rfl | simp) (Nat.le_of_ble_eq_true rfl) | refine LeXs.cons ?_ ?_ | exact LeXs.nil | refine And.intro ?_ ?_))) (hs := (by repeat' (first | exact trivial | refine And.intro ?_ ?_ | exact Or.inl ⟨(Nat.le_of_ble_eq_true rfl), _, rfl, AObj.leSame (by first | rfl | exact hb _ (Nat.le_of_ble_eq_true rfl) | exact hob _ (Nat.le_of_ble_eq_true rfl) | (refine open_bd ?_ _ _; exact Nat.le_of_ble_eq_true rfl) | exact pls_bd _ _ | exact V.bds_gE (gT_bds nE _) _ | (refine gE_bd ?_ _; exact Nat.le_of_ble_eq_true rfl))⟩ | exact Or.inl ⟨(Nat.le_of_ble_eq_true rfl), _, rfl, (updLe hp rfl)⟩)))
end Go.GB.C35


/-
  L36H: chapter 35: the results of tickets, tickets as a growing array.
-/
namespace Go.GB.C35
open Go.GB
set_option linter.unusedSimpArgs false
set_option linter.unusedVariables false
set_option maxRecDepth 100000
set_option maxHeartbeats 16000000
variable {P : Program}
theorem take_okg (H : Pr P) (m c s f nx : Int) (tk : List Int) (ps : List Pl) (op es : List (List T × V)) (n a : Nat) (p : Pl) (htk : tk[n]? = some (a : Int)) (hp : ps[a]? = some p) (hpk : p.Ok) (hpl : ps.length < 1000000) (htl : tk.length < 1000000) (hk : keysOk [.int .i64] es = true) (hg : mget [.int .i64 f] es = some (.ptr 4 0)) (hb : ∀ k, 9 ≤ k → V.bds k (es.map (·.2)) = true) (hob : ∀ k, 9 ≤ k → V.bds k (op.map (·.2)) = true) : FnOk P 19 [.ptr 1 0, .t (.int .i64 f), .t (.int .i64 n)] ⟨[(0, .map false es none), (1, .cells [.t (.int .i64 m), .mp 0, .t (.int .i64 c), .t (.int .i64 s)]), (3, .map false op none), (4, .cells [.gsl 8 tk.length 0 tk.length 1, .gsl 7 (pl ps).length 0 (pl ps).length 1, .t (.int .i64 nx), .mp 3]), (5, .fobs (ps.map Pl.cs)), (7, .gro (pl ps).length (gE (pE 5) (pl ps))), (8, .gro tk.length (gE (gT nE) tk))], 9⟩ { v := .tup [(if p.ld then p.res else Val.zero).v, .t (.bool p.ld)], rd := true } := by
  have hsa : stoBd 9 [(0, .map false es none), (1, .cells [.t (.int .i64 m), .mp 0, .t (.int .i64 c), .t (.int .i64 s)]), (3, .map false op none), (4, .cells [.gsl 8 tk.length 0 tk.length 1, .gsl 7 (pl ps).length 0 (pl ps).length 1, .t (.int .i64 nx), .mp 3]), (5, .fobs (ps.map Pl.cs)), (7, .gro (pl ps).length (gE (pE 5) (pl ps))), (8, .gro tk.length (gE (gT nE) tk))] = true := (by repeat' (first | exact (rfl : stoBd _ [] = true) | refine stoBd_cons (Nat.le_of_ble_eq_true rfl) ?_ ?_ | exact (by first | rfl | exact hb _ (Nat.le_of_ble_eq_true rfl) | exact hob _ (Nat.le_of_ble_eq_true rfl) | (refine open_bd ?_ _ _; exact Nat.le_of_ble_eq_true rfl) | exact pls_bd _ _ | exact V.bds_gE (gT_bds nE _) _ | (refine gE_bd ?_ _; exact Nat.le_of_ble_eq_true rfl))))
  have hsb : stoBd 10 [(0, .map false es none), (1, .cells [.t (.int .i64 m), .mp 0, .t (.int .i64 c), .t (.int .i64 s)]), (3, .map false op none), (4, .cells [.gsl 8 tk.length 0 tk.length 1, .gsl 7 (pl ps).length 0 (pl ps).length 1, .t (.int .i64 nx), .mp 3]), (5, .fobs (ps.map Pl.cs)), (7, .gro (pl ps).length (gE (pE 5) (pl ps))), (8, .gro tk.length (gE (gT nE) tk)), (9, .cells [.t (.int .i64 0), .t (.int .i64 0), .t (.str []), .nils, .nils])] = true := (by repeat' (first | exact (rfl : stoBd _ [] = true) | refine stoBd_cons (Nat.le_of_ble_eq_true rfl) ?_ ?_ | exact (by first | rfl | exact hb _ (Nat.le_of_ble_eq_true rfl) | exact hob _ (Nat.le_of_ble_eq_true rfl) | (refine open_bd ?_ _ _; exact Nat.le_of_ble_eq_true rfl) | exact pls_bd _ _ | exact V.bds_gE (gT_bds nE _) _ | (refine gE_bd ?_ _; exact Nat.le_of_ble_eq_true rfl))))
  have hn : n < tk.length := (List.getElem?_eq_some_iff.1 htk).1
  have ha : a < (pl ps).length := by rw [pl_length]; exact (List.getElem?_eq_some_iff.1 hp).1
  have hpos : 0 < (pl ps).length := by omega
  have hpc : (ps.map Pl.cs)[a]? = some p.cs := by simp [hp]
  refine FnOk.run H.i19 H.mixed rfl rfl ?_
  refine fR rfl ?_
  refine Mid.callS (none_gb H m c s _ _ hsb) rfl rfl hsb rfl ?_
  refine fM rfl ?_
  refine Mid.lookVG (.ptr 4 0) rfl rfl rfl rfl rfl (hk) (by rw [hg]; rfl) (by (repeat' (first | exact trivial | exact Bool.not_or_self _ | exact grd1 _ | exact grd2 _ | exact grd3 _ _ | exact grd4 _ _ | refine And.intro ?_ ?_ | exact rfl | (simp; done) | (simp <;> omega))); done) (by (repeat' (first | exact trivial | exact Bool.not_or_self _ | exact grd1 _ | exact grd2 _ | exact grd3 _ _ | exact grd4 _ _ | refine And.intro ?_ ?_ | exact rfl | (simp; done) | (simp <;> omega))); done) rfl ?_
  refine fM rfl ?_
  refine Mid.lookVG (.ptr 4 0) rfl rfl rfl rfl rfl (hk) (by rw [hg]; rfl) (by (repeat' (first | exact trivial | exact Bool.not_or_self _ | exact grd1 _ | exact grd2 _ | exact grd3 _ _ | exact grd4 _ _ | refine And.intro ?_ ?_ | exact rfl | (simp; done) | (simp <;> omega))); done) (by (repeat' (first | exact trivial | exact Bool.not_or_self _ | exact grd1 _ | exact grd2 _ | exact grd3 _ _ | exact grd4 _ _ | refine And.intro ?_ ?_ | exact rfl | (simp; done) | (simp <;> omega))); done) rfl ?_
  refine fM rfl ?_
  refine gr rfl ?_
  refine fM rfl ?_
  refine Run.condF rfl rfl (by simp; omega) ?_
  refine fR rfl ?_
  refine Mid.lookV (.ptr 4 0) rfl rfl rfl rfl (hk) (by rw [hg]; rfl) rfl ?_
  refine fM rfl ?_
  refine pu rfl ?_
  refine Mid.ldG (n) 0 (sz := 1) rfl rfl (by omega) (by omega) (gT_length (fun _ => rfl)) (htk) rfl rfl ?_
  refine pu rfl ?_
  refine Mid.ldG (a) 0 (sz := 1) rfl rfl (by omega) (by omega) (fun _ => rfl) (pl_some (by rw [pl_length] at ha; exact ha)) rfl rfl ?_
  refine p0 rfl ?_
  refine Mid.fast (f := 1) rfl (by (repeat' (first | exact trivial | exact Bool.not_or_self _ | exact grd1 _ | exact grd2 _ | exact grd3 _ _ | exact grd4 _ _ | refine And.intro ?_ ?_ | exact rfl | (simp; done) | (simp <;> omega))); done) ?_
  refine Run.fast (f := 4) rfl (by (repeat' (first | exact trivial | exact Bool.not_or_self _ | exact grd1 _ | exact grd2 _ | exact grd3 _ _ | exact grd4 _ _ | refine And.intro ?_ ?_ | exact rfl | (simp; done) | (simp <;> omega))); done) ?_
  cases hld : p.ld with
  | false =>
    refine Mid.ldF (cs := p.cs) (.t (.bool false)) rfl rfl hpc (by simp [Pl.cs, hld]) rfl ?_
    refine fM rfl ?_
    refine Run.condT rfl rfl rfl ?_
    refine fR rfl ?_
    refine Run.fin rfl (EndOk.sameX rfl rfl rfl hsa ?_)
    exact .tup (.cons zeroR (.cons (.t rfl) .nil))
  | true =>
    refine Mid.ldF (cs := p.cs) (.t (.bool true)) rfl rfl hpc (by simp [Pl.cs, hld]) rfl ?_
    refine fM rfl ?_
    refine Run.condF rfl rfl rfl ?_
    refine Run.fast (f := 4) rfl (by (repeat' (first | exact trivial | exact Bool.not_or_self _ | exact grd1 _ | exact grd2 _ | exact grd3 _ _ | exact grd4 _ _ | refine And.intro ?_ ?_ | exact rfl | (simp; done) | (simp <;> omega))); done) ?_
    refine Mid.ldFA (cs := p.cs) rfl rfl hpc (by simp [Pl.cs]) rfl rfl ?_
    skip
    refine Mid.call (copy_ok H p.res hpk.s) rfl rfl rfl rfl ?_
    refine fM rfl ?_
    refine Run.fin rfl (EndOk.sameX rfl rfl rfl hsa ?_)
    exact .tup (.cons (.le (.same rfl)) (.cons (.t rfl) .nil))
end Go.GB.C35


/-
  L36I: chapter 35: the other cases of a loader's methods.
-/
namespace Go.GB.C35
open Go.GB
set_option linter.unusedSimpArgs false
set_option linter.unusedVariables false
set_option maxRecDepth 100000
set_option maxHeartbeats 16000000
variable {P : Program}
theorem none_2 (H : Pr P) (m c s : Int) (o : AObj) (hb : stoBd 2 [(0, o), (1, .cells [.t (.int .i64 m), .mp 0, .t (.int .i64 c), .t (.int .i64 s)])] = true) : FnOk P 31 [.ptr 1 0] ⟨[(0, o), (1, .cells [.t (.int .i64 m), .mp 0, .t (.int .i64 c), .t (.int .i64 s)])], 2⟩ { v := .t (.bool false), rd := true } := by
  refine FnOk.run H.i31 H.mixed rfl rfl ?_
  refine fR rfl ?_
  refine Run.fin rfl (EndOk.sameX rfl rfl rfl hb (.t rfl))
theorem none_3 (H : Pr P) (m c s : Int) (o o2 : AObj) (hb : stoBd 3 [(0, o), (1, .cells [.t (.int .i64 m), .mp 0, .t (.int .i64 c), .t (.int .i64 s)]), (2, o2)] = true) : FnOk P 31 [.ptr 1 0] ⟨[(0, o), (1, .cells [.t (.int .i64 m), .mp 0, .t (.int .i64 c), .t (.int .i64 s)]), (2, o2)], 3⟩ { v := .t (.bool false), rd := true } := by
  refine FnOk.run H.i31 H.mixed rfl rfl ?_
  refine fR rfl ?_
  refine Run.fin rfl (EndOk.sameX rfl rfl rfl hb (.t rfl))
theorem calls_2 (H : Pr P) (m c s : Int) (o : AObj) (hb : stoBd 2 [(0, o), (1, .cells [.t (.int .i64 m), .mp 0, .t (.int .i64 c), .t (.int .i64 s)])] = true) : FnOk P 12 [.ptr 1 0] ⟨[(0, o), (1, .cells [.t (.int .i64 m), .mp 0, .t (.int .i64 c), .t (.int .i64 s)])], 2⟩ { v := .t (.int .i64 c), rd := true } := by
  refine FnOk.run H.i12 H.mixed rfl rfl ?_
  refine fR rfl ?_
  refine Mid.callS (none_2 H m c s _ hb) rfl rfl hb rfl ?_
  refine fM rfl ?_
  refine Run.condF rfl rfl rfl ?_
  refine fR rfl ?_
  refine Run.fin rfl (EndOk.sameX rfl rfl rfl hb (.t rfl))
theorem saved_2 (H : Pr P) (m c s : Int) (o : AObj) (hb : stoBd 2 [(0, o), (1, .cells [.t (.int .i64 m), .mp 0, .t (.int .i64 c), .t (.int .i64 s)])] = true) : FnOk P 14 [.ptr 1 0] ⟨[(0, o), (1, .cells [.t (.int .i64 m), .mp 0, .t (.int .i64 c), .t (.int .i64 s)])], 2⟩ { v := .t (.int .i64 s), rd := true } := by
  refine FnOk.run H.i14 H.mixed rfl rfl ?_
  refine fR rfl ?_
  refine Mid.callS (none_2 H m c s _ hb) rfl rfl hb rfl ?_
  refine fM rfl ?_
  refine Run.condF rfl rfl rfl ?_
  refine fR rfl ?_
  refine Run.fin rfl (EndOk.sameX rfl rfl rfl hb (.t rfl))
theorem add_neg (H : Pr P) (m c s f : Int) (es : List (List T × V)) (hf : f < 0) (v : Val) (hv : v.Ok) (hb : ∀ k, 2 ≤ k → V.bds k (es.map (·.2)) = true) : FnOk P 16 [.ptr 1 0, .t (.int .i64 f), v.v] ⟨[(0, .map false es none), (1, .cells [.t (.int .i64 m), .mp 0, .t (.int .i64 c), .t (.int .i64 s)])], 2⟩ { v := .tup [.t (.int .i64 0), .t (.int .i64 2)], rd := true } := by
  have hb2 := hb
  have hsb : stoBd 3 [(0, .map false es none), (1, .cells [.t (.int .i64 m), .mp 0, .t (.int .i64 c), .t (.int .i64 s)]), (2, .cells [.t (.int .i64 v.kind), .t (.int .i64 v.int), .t (.str v.text), .t (.lst (v.items.map Val.enc)), .t (.lst (v.keys.map sE))])] = true := (by repeat' (first | exact (rfl : stoBd _ [] = true) | refine stoBd_cons (Nat.le_of_ble_eq_true rfl) ?_ ?_ | exact (by first | rfl | exact hb _ (Nat.le_of_ble_eq_true rfl) | exact hob _ (Nat.le_of_ble_eq_true rfl) | (refine open_bd ?_ _ _; exact Nat.le_of_ble_eq_true rfl) | exact pls_bd _ _ | exact V.bds_gE (gT_bds nE _) _ | exact hb2 _ (Nat.le_of_ble_eq_true rfl) | (refine gE_bd ?_ _; exact Nat.le_of_ble_eq_true rfl))))
  have hsa : stoBd 2 [(0, .map false es none), (1, .cells [.t (.int .i64 m), .mp 0, .t (.int .i64 c), .t (.int .i64 s)])] = true := (by repeat' (first | exact (rfl : stoBd _ [] = true) | refine stoBd_cons (Nat.le_of_ble_eq_true rfl) ?_ ?_ | exact (by first | rfl | exact hb _ (Nat.le_of_ble_eq_true rfl) | exact hob _ (Nat.le_of_ble_eq_true rfl) | (refine open_bd ?_ _ _; exact Nat.le_of_ble_eq_true rfl) | exact pls_bd _ _ | exact V.bds_gE (gT_bds nE _) _ | exact hb2 _ (Nat.le_of_ble_eq_true rfl) | (refine gE_bd ?_ _; exact Nat.le_of_ble_eq_true rfl))))
  refine FnOk.run H.i16 H.mixed rfl rfl ?_
  refine fR rfl ?_
  refine Mid.callS (none_3 H m c s _ _ hsb) rfl rfl hsb rfl ?_
  refine fM rfl ?_
  refine Run.condF rfl rfl rfl ?_
  refine fR rfl ?_
  refine Run.condT rfl rfl (by simp; omega) ?_
  refine fR rfl ?_
  refine Run.fin rfl (EndOk.sameX rfl rfl rfl hsa ?_)
  exact .tup (.cons (.t rfl) (.cons (.t rfl) .nil))
theorem add_newg (H : Pr P) (m c s f : Int) (es : List (List T × V)) (hf : 0 ≤ f) (v : Val) (hv : v.Ok) (hk : keysOk [.int .i64] es = true) (hg : mget [.int .i64 f] es = none) (hb : ∀ k, 2 ≤ k → V.bds k (es.map (·.2)) = true) (fs : List (List T × V)) (hm : mset [.int .i64 f] (.ptr 4 0) es = fs) (hb2 : ∀ k, 5 ≤ k → V.bds k (fs.map (·.2)) = true) : FnOk P 16 [.ptr 1 0, .t (.int .i64 f), v.v] ⟨[(0, .map false es none), (1, .cells [.t (.int .i64 m), .mp 0, .t (.int .i64 c), .t (.int .i64 s)])], 2⟩ { v := .tup [.t (.int .i64 0), .t (.int .i64 0)], ob := [(0, .map false fs none), (3, .map false (openE 5 0 0) none), (4, .cells [.gsl 8 [(0 : Int)].length 0 [(0 : Int)].length 1, .gsl 7 (pl [⟨v, Val.zero, false⟩]).length 0 (pl [⟨v, Val.zero, false⟩]).length 1, .t (.int .i64 0), .mp 3]), (5, .fobs ([⟨v, Val.zero, false⟩].map Pl.cs)), (7, .gro (pl [⟨v, Val.zero, false⟩]).length (gE (pE 5) (pl [⟨v, Val.zero, false⟩]))), (8, .gro [(0 : Int)].length (gE (gT nE) [(0 : Int)]))], n := 7, rd := true } := by
  have hsb : stoBd 3 [(0, .map false es none), (1, .cells [.t (.int .i64 m), .mp 0, .t (.int .i64 c), .t (.int .i64 s)]), (2, .cells [.t (.int .i64 v.kind), .t (.int .i64 v.int), .t (.str v.text), .t (.lst (v.items.map Val.enc)), .t (.lst (v.keys.map sE))])] = true := stoBd_cons (Nat.le_of_ble_eq_true rfl) (hb _ (Nat.le_of_ble_eq_true rfl)) rfl
  refine FnOk.run H.i16 H.mixed rfl rfl ?_
  refine fR rfl ?_
  refine Mid.callS (none_3 H m c s _ _ hsb) rfl rfl hsb rfl ?_
  refine fM rfl ?_
  refine Run.condF rfl rfl rfl ?_
  refine fR rfl ?_
  refine Run.condF rfl rfl (by simp; omega) ?_
  refine fR rfl ?_
  refine Mid.lookV (.t .nilp) rfl rfl rfl rfl hk (by rw [hg]; rfl) rfl ?_
  refine fM rfl ?_
  refine Run.condT rfl rfl rfl ?_
  refine fR rfl ?_
  refine Mid.mkmapV rfl ?_
  refine fM rfl ?_
  refine Mid.mapV (es' := fs) rfl rfl rfl hk hm rfl ?_
  refine fM rfl ?_
  refine p0 rfl ?_
  refine fM rfl ?_
  refine Run.loop rfl ?_
  refine Run.unroll ?_
  refine fR rfl ?_
  refine Run.condF rfl rfl rfl ?_
  refine fR rfl ?_
  refine Run.condT rfl rfl rfl ?_
  refine rWeakC 5 rfl (st' := { env := [(5, .ptr 2 0), (8, .ptr 4 0), (9, .t (.int .i64 (-1)))], s := ⟨[(0, .map false fs none), (1, .cells [.t (.int .i64 m), .mp 0, .t (.int .i64 c), .t (.int .i64 s)]), (2, .cells [.t (.int .i64 v.kind), .t (.int .i64 v.int), .t (.str v.text), .t (.lst (v.items.map Val.enc)), .t (.lst (v.keys.map sE))]), (3, .map false [] (some (0, []))), (4, .cells [.nils, .nils, .t (.int .i64 0), .mp 3]), (5, .fobs [])], 6⟩ }) ?_ rfl rfl rfl (hs := (by repeat' (first | exact trivial | refine And.intro ?_ ?_ | exact Or.inr ⟨Nat.le_of_ble_eq_true rfl, Nat.le_of_ble_eq_true rfl, rfl⟩ | exact Or.inl ⟨(Nat.le_of_ble_eq_true rfl), _, rfl, AObj.leSame (by first | rfl | exact hb _ (Nat.le_of_ble_eq_true rfl) | exact hob _ (Nat.le_of_ble_eq_true rfl) | (refine open_bd ?_ _ _; exact Nat.le_of_ble_eq_true rfl) | exact pls_bd _ _ | exact V.bds_gE (gT_bds nE _) _ | exact hb2 _ (Nat.le_of_ble_eq_true rfl) | (refine gE_bd ?_ _; exact Nat.le_of_ble_eq_true rfl))⟩)))
  refine fR rfl ?_
  refine p0 rfl ?_
  refine fM rfl ?_
  refine Mid.call (copy_ok H v hv) rfl rfl rfl rfl ?_
  refine Mid.fast (f := 1) rfl (by (repeat' (first | exact trivial | exact Bool.not_or_self _ | exact grd1 _ | exact grd2 _ | exact grd3 _ _ | exact grd4 _ _ | refine And.intro ?_ ?_ | exact rfl | (simp; done) | (simp <;> omega))); done) ?_
  refine Mid.boxF (os := []) 5 rfl rfl rfl rfl rfl ?_
  refine Mid.bslO (cs := [.fpt 5 0 0]) rfl rfl ?_
  refine Mid.appGN (pE 5) [0] rfl rfl (fun _ => rfl) (by decide) (by decide) rfl ?_
  refine fM rfl ?_
  refine Mid.appGN (gT nE) [(0 : Int)] rfl (addV_t rfl (fun _ => rfl)) (gT_cellOk _) (by first | omega | (simp; omega) | (simp; done)) (by first | omega | (simp; omega) | (simp; done)) rfl ?_
  refine fM rfl ?_
  refine pu rfl ?_
  refine p0 rfl ?_
  refine fM rfl ?_
  refine Run.fin rfl (EndOk.chg rfl rfl ?_ ?_)
  · exact .tup (.cons (.t rfl) (.cons (.t rfl) .nil))
  · refine ⟨?_, ?_, ?_, ?_, ?_, ?_, ?_, trivial⟩
    · exact .inl ⟨(Nat.le_of_ble_eq_true rfl), _, rfl, AObj.leSame (hb2 _ (Nat.le_of_ble_eq_true rfl))⟩
    · exact .inl ⟨(Nat.le_of_ble_eq_true rfl), _, rfl, AObj.leSame rfl⟩
    · exact .inl ⟨Nat.le_of_ble_eq_true rfl, _, rfl, .map rfl (.same rfl) (.inl rfl)⟩
    · exact .inl ⟨(Nat.le_of_ble_eq_true rfl), _, rfl, AObj.leSame rfl⟩
    · exact .inl ⟨Nat.le_of_ble_eq_true rfl, _, rfl, .fobsPush (ps := []) rfl rfl rfl (.cons .t (.cons .t (.cons .t (.cons .t (.cons .t (.cons .t (.cons .t (.cons .t (.cons .nilT (.cons .nilT (.cons .t .nil)))))))))))⟩
    · exact .inl ⟨(Nat.le_of_ble_eq_true rfl), _, rfl, AObj.leSame rfl⟩
    · exact .inl ⟨(Nat.le_of_ble_eq_true rfl), _, rfl, AObj.leSame rfl⟩
theorem next_none (H : Pr P) (m c s f : Int) (es : List (List T × V)) (hk : keysOk [.int .i64] es = true) (hg : mget [.int .i64 f] es = none) (hb : ∀ k, 2 ≤ k → V.bds k (es.map (·.2)) = true) : FnOk P 17 [.ptr 1 0, .t (.int .i64 f)] ⟨[(0, .map false es none), (1, .cells [.t (.int .i64 m), .mp 0, .t (.int .i64 c), .t (.int .i64 s)])], 2⟩ { v := .tup [.t (.lst []), .t (.bool false)], rd := true } := by
  have hb2 := hb
  have hsa : stoBd 2 [(0, .map false es none), (1, .cells [.t (.int .i64 m), .mp 0, .t (.int .i64 c), .t (.int .i64 s)])] = true := (by repeat' (first | exact (rfl : stoBd _ [] = true) | refine stoBd_cons (Nat.le_of_ble_eq_true rfl) ?_ ?_ | exact (by first | rfl | exact hb _ (Nat.le_of_ble_eq_true rfl) | exact hob _ (Nat.le_of_ble_eq_true rfl) | (refine open_bd ?_ _ _; exact Nat.le_of_ble_eq_true rfl) | exact pls_bd _ _ | exact V.bds_gE (gT_bds nE _) _ | exact hb2 _ (Nat.le_of_ble_eq_true rfl) | (refine gE_bd ?_ _; exact Nat.le_of_ble_eq_true rfl))))
  refine FnOk.run H.i17 H.mixed rfl rfl ?_
  refine fR rfl ?_
  refine Mid.callS (none_2 H m c s _ hsa) rfl rfl hsa rfl ?_
  refine fM rfl ?_
  refine Mid.lookVG (gc := true) (.t .nilp) rfl rfl rfl rfl rfl hk (by rw [hg]; rfl) ⟨rfl, trivial⟩ ⟨rfl, trivial⟩ rfl ?_
  refine fM rfl ?_
  refine Run.condT rfl rfl rfl ?_
  refine fR rfl ?_
  refine Run.fin rfl (EndOk.sameX rfl rfl rfl hsa ?_)
  exact .tup (.cons (.nil rfl) (.cons (.t rfl) .nil))
theorem done_none (H : Pr P) (m c s f : Int) (xs : List (List T)) (es : List (List T × V)) (hk : keysOk [.int .i64] es = true) (hg : mget [.int .i64 f] es = none) (hb : ∀ k, 2 ≤ k → V.bds k (es.map (·.2)) = true) : FnOk P 18 [.ptr 1 0, .t (.int .i64 f), .t (.lst xs)] ⟨[(0, .map false es none), (1, .cells [.t (.int .i64 m), .mp 0, .t (.int .i64 c), .t (.int .i64 s)])], 2⟩ { v := .t (.int .i64 12), rd := true } := by
  have hb2 := hb
  have hsa : stoBd 2 [(0, .map false es none), (1, .cells [.t (.int .i64 m), .mp 0, .t (.int .i64 c), .t (.int .i64 s)])] = true := (by repeat' (first | exact (rfl : stoBd _ [] = true) | refine stoBd_cons (Nat.le_of_ble_eq_true rfl) ?_ ?_ | exact (by first | rfl | exact hb _ (Nat.le_of_ble_eq_true rfl) | exact hob _ (Nat.le_of_ble_eq_true rfl) | (refine open_bd ?_ _ _; exact Nat.le_of_ble_eq_true rfl) | exact pls_bd _ _ | exact V.bds_gE (gT_bds nE _) _ | exact hb2 _ (Nat.le_of_ble_eq_true rfl) | (refine gE_bd ?_ _; exact Nat.le_of_ble_eq_true rfl))))
  refine FnOk.run H.i18 H.mixed rfl rfl ?_
  refine fR rfl ?_
  refine Mid.callS (none_2 H m c s _ hsa) rfl rfl hsa rfl ?_
  refine fM rfl ?_
  refine Run.condF rfl rfl rfl ?_
  refine fR rfl ?_
  refine Mid.lookV (.t .nilp) rfl rfl rfl rfl hk (by rw [hg]; rfl) rfl ?_
  refine fM rfl ?_
  refine Mid.lookVG (.t .nilp) rfl rfl rfl rfl rfl (hk) (by rw [hg]; rfl) (by (repeat' (first | exact trivial | exact Bool.not_or_self _ | exact grd1 _ | exact grd2 _ | exact grd3 _ _ | exact grd4 _ _ | refine And.intro ?_ ?_ | exact rfl | (simp; done) | (simp <;> omega))); done) (by (repeat' (first | exact trivial | exact Bool.not_or_self _ | exact grd1 _ | exact grd2 _ | exact grd3 _ _ | exact grd4 _ _ | refine And.intro ?_ ?_ | exact rfl | (simp; done) | (simp <;> omega))); done) rfl ?_
  skip
  refine Mid.grdF rfl (by first | rfl | (simp; done)) rfl rfl rfl ?_
  refine Mid.grdF rfl (by first | rfl | (simp; done)) rfl rfl rfl ?_
  refine Mid.grdF rfl (by first | rfl | (simp; done)) rfl rfl rfl ?_
  refine Mid.grdF rfl (by first | rfl | (simp; done)) rfl rfl rfl ?_
  refine Mid.grdF rfl (by first | rfl | (simp; done)) rfl rfl rfl ?_
  refine fM rfl ?_
  refine Run.condT rfl rfl rfl ?_
  refine fR rfl ?_
  refine Run.fin rfl (EndOk.sameX rfl rfl rfl hsa (.t rfl))
theorem take_none (H : Pr P) (m c s f n : Int) (es : List (List T × V)) (hk : keysOk [.int .i64] es = true) (hg : mget [.int .i64 f] es = none) (hb : ∀ k, 2 ≤ k → V.bds k (es.map (·.2)) = true) : FnOk P 19 [.ptr 1 0, .t (.int .i64 f), .t (.int .i64 n)] ⟨[(0, .map false es none), (1, .cells [.t (.int .i64 m), .mp 0, .t (.int .i64 c), .t (.int .i64 s)])], 2⟩ { v := .tup [Val.zero.v, .t (.bool false)], rd := true } := by
  have hb2 := hb
  have hsa : stoBd 2 [(0, .map false es none), (1, .cells [.t (.int .i64 m), .mp 0, .t (.int .i64 c), .t (.int .i64 s)])] = true := (by repeat' (first | exact (rfl : stoBd _ [] = true) | refine stoBd_cons (Nat.le_of_ble_eq_true rfl) ?_ ?_ | exact (by first | rfl | exact hb _ (Nat.le_of_ble_eq_true rfl) | exact hob _ (Nat.le_of_ble_eq_true rfl) | (refine open_bd ?_ _ _; exact Nat.le_of_ble_eq_true rfl) | exact pls_bd _ _ | exact V.bds_gE (gT_bds nE _) _ | exact hb2 _ (Nat.le_of_ble_eq_true rfl) | (refine gE_bd ?_ _; exact Nat.le_of_ble_eq_true rfl))))
  have hsb : stoBd 3 [(0, .map false es none), (1, .cells [.t (.int .i64 m), .mp 0, .t (.int .i64 c), .t (.int .i64 s)]), (2, .cells [.t (.int .i64 0), .t (.int .i64 0), .t (.str []), .nils, .nils])] = true := (by repeat' (first | exact (rfl : stoBd _ [] = true) | refine stoBd_cons (Nat.le_of_ble_eq_true rfl) ?_ ?_ | exact (by first | rfl | exact hb _ (Nat.le_of_ble_eq_true rfl) | exact hob _ (Nat.le_of_ble_eq_true rfl) | (refine open_bd ?_ _ _; exact Nat.le_of_ble_eq_true rfl) | exact pls_bd _ _ | exact V.bds_gE (gT_bds nE _) _ | exact hb2 _ (Nat.le_of_ble_eq_true rfl) | (refine gE_bd ?_ _; exact Nat.le_of_ble_eq_true rfl))))
  refine FnOk.run H.i19 H.mixed rfl rfl ?_
  refine fR rfl ?_
  refine Mid.callS (none_3 H m c s _ _ hsb) rfl rfl hsb rfl ?_
  refine fM rfl ?_
  refine Mid.lookVG (.t .nilp) rfl rfl rfl rfl rfl (hk) (by rw [hg]; rfl) (by (repeat' (first | exact trivial | exact Bool.not_or_self _ | exact grd1 _ | exact grd2 _ | exact grd3 _ _ | exact grd4 _ _ | refine And.intro ?_ ?_ | exact rfl | (simp; done) | (simp <;> omega))); done) (by (repeat' (first | exact trivial | exact Bool.not_or_self _ | exact grd1 _ | exact grd2 _ | exact grd3 _ _ | exact grd4 _ _ | refine And.intro ?_ ?_ | exact rfl | (simp; done) | (simp <;> omega))); done) rfl ?_
  refine fM rfl ?_
  refine Mid.lookVG (.t .nilp) rfl rfl rfl rfl rfl (hk) (by rw [hg]; rfl) (by (repeat' (first | exact trivial | exact Bool.not_or_self _ | exact grd1 _ | exact grd2 _ | exact grd3 _ _ | exact grd4 _ _ | refine And.intro ?_ ?_ | exact rfl | (simp; done) | (simp <;> omega))); done) (by (repeat' (first | exact trivial | exact Bool.not_or_self _ | exact grd1 _ | exact grd2 _ | exact grd3 _ _ | exact grd4 _ _ | refine And.intro ?_ ?_ | exact rfl | (simp; done) | (simp <;> omega))); done) rfl ?_
  skip
  refine Mid.grdF rfl (by first | rfl | (simp; done)) rfl rfl rfl ?_
  refine Mid.grdF rfl (by first | rfl | (simp; done)) rfl rfl rfl ?_
  refine Mid.grdF rfl (by first | rfl | (simp; done)) rfl rfl rfl ?_
  refine Mid.grdF rfl (by first | rfl | (simp; done)) rfl rfl rfl ?_
  refine Mid.grdF rfl (by first | rfl | (simp; done)) rfl rfl rfl ?_
  refine fM rfl ?_
  refine Run.condT rfl rfl rfl ?_
  refine fR rfl ?_
  refine Run.fin rfl (EndOk.sameX rfl rfl rfl hsa ?_)
  exact .tup (.cons zeroR (.cons (.t rfl) .nil))
end Go.GB.C35


/-
  L36J: chapter 35: more cases of the methods.
-/
namespace Go.GB.C35
open Go.GB
set_option linter.unusedSimpArgs false
set_option linter.unusedVariables false
set_option maxRecDepth 100000
set_option maxHeartbeats 16000000
variable {P : Program}
theorem next_openg (H : Pr P) (m c s f : Int) (nx lo k : Nat) (tk : List Int) (ps : List Pl) (es : List (List T × V)) (hk0 : 0 < k) (hlo : lo + k ≤ ps.length) (hpl : ps.length < 1000000) (hpo : ∀ p, p ∈ ps → p.Ok) (hk : keysOk [.int .i64] es = true) (hg : mget [.int .i64 f] es = some (.ptr 4 0)) (hb : ∀ k, 9 ≤ k → V.bds k (es.map (·.2)) = true) : FnOk P 17 [.ptr 1 0, .t (.int .i64 f)] ⟨[(0, .map false es none), (1, .cells [.t (.int .i64 m), .mp 0, .t (.int .i64 c), .t (.int .i64 s)]), (3, .map false (openE 5 lo k) none), (4, .cells [.gsl 8 tk.length 0 tk.length 1, .gsl 7 (pl ps).length 0 (pl ps).length 1, .t (.int .i64 nx), .mp 3]), (5, .fobs (ps.map Pl.cs)), (7, .gro (pl ps).length (gE (pE 5) (pl ps))), (8, .gro tk.length (gE (gT nE) tk))], 9⟩ { v := .tup [.t (.lst ((reps lo k ps).map Val.enc)), .t (.bool true)], rd := true } := by
  have hsa : stoBd 9 [(0, .map false es none), (1, .cells [.t (.int .i64 m), .mp 0, .t (.int .i64 c), .t (.int .i64 s)]), (3, .map false (openE 5 lo k) none), (4, .cells [.gsl 8 tk.length 0 tk.length 1, .gsl 7 (pl ps).length 0 (pl ps).length 1, .t (.int .i64 nx), .mp 3]), (5, .fobs (ps.map Pl.cs)), (7, .gro (pl ps).length (gE (pE 5) (pl ps))), (8, .gro tk.length (gE (gT nE) tk))] = true := (by repeat' (first | exact (rfl : stoBd _ [] = true) | refine stoBd_cons (Nat.le_of_ble_eq_true rfl) ?_ ?_ | exact (by first | rfl | exact hb _ (Nat.le_of_ble_eq_true rfl) | exact hob _ (Nat.le_of_ble_eq_true rfl) | (refine open_bd ?_ _ _; exact Nat.le_of_ble_eq_true rfl) | exact pls_bd _ _ | exact V.bds_gE (gT_bds nE _) _ | (refine gE_bd ?_ _; exact Nat.le_of_ble_eq_true rfl))))
  refine FnOk.run H.i17 H.mixed rfl rfl ?_
  refine fR rfl ?_
  refine Mid.callS (none_ga H m c s _ _ hsa) rfl rfl hsa rfl ?_
  refine fM rfl ?_
  refine Mid.lookVG (gc := true) (.ptr 4 0) rfl rfl rfl rfl rfl hk (by rw [hg]; rfl) ⟨rfl, trivial⟩ ⟨rfl, trivial⟩ rfl ?_
  refine fM rfl ?_
  refine Run.condF rfl rfl rfl ?_
  refine fR rfl ?_
  refine Mid.lookV (.ptr 4 0) rfl rfl rfl rfl hk (by rw [hg]; rfl) rfl ?_
  refine fM rfl ?_
  refine Mid.lenmV k rfl rfl (open_len _ _ _) rfl ?_
  refine fM rfl ?_
  have hl : (reps lo k ps).length = k := by simp [reps]; omega
  refine Run.condF rfl rfl (by simp; omega) ?_
  refine fR rfl ?_
  refine Mid.lenmV k rfl rfl (open_len _ _ _) rfl ?_
  refine fM rfl ?_
  refine rList (reps lo k ps) (fun i (B : List Val) => { env := [(6, .ptr 4 0), (7, .own 9 5 (B.map Val.enc)), (97, .t (.int .i64 k)), (98, .t (.int .i64 i))], s := ⟨[(0, .map false es none), (1, .cells [.t (.int .i64 m), .mp 0, .t (.int .i64 c), .t (.int .i64 s)]), (3, .map false (openE 5 lo k) none), (4, .cells [.gsl 8 tk.length 0 tk.length 1, .gsl 7 (pl ps).length 0 (pl ps).length 1, .t (.int .i64 nx), .mp 3]), (5, .fobs (ps.map Pl.cs)), (7, .gro (pl ps).length (gE (pE 5) (pl ps))), (8, .gro tk.length (gE (gT nE) tk)), (9, .arr B.length)], 10⟩ }) (fun r i B => B.length = i ∧ B ++ r = reps lo k ps) 9 [] rfl ⟨rfl, rfl⟩ rfl rfl rfl ?_ ?_ (hs := (by repeat' (first | exact trivial | refine And.intro ?_ ?_ | exact Or.inr ⟨Nat.le_of_ble_eq_true rfl, Nat.le_of_ble_eq_true rfl, rfl⟩ | exact Or.inl ⟨(Nat.le_of_ble_eq_true rfl), _, rfl, AObj.leSame (by first | rfl | exact hb _ (Nat.le_of_ble_eq_true rfl) | exact hob _ (Nat.le_of_ble_eq_true rfl) | (refine open_bd ?_ _ _; exact Nat.le_of_ble_eq_true rfl) | exact pls_bd _ _ | exact V.bds_gE (gT_bds nE _) _ | (refine gE_bd ?_ _; exact Nat.le_of_ble_eq_true rfl))⟩)))
  · rintro B ⟨hBl, hB⟩
    have e : B = reps lo k ps := by rw [← hB]; simp
    refine fR rfl ?_
    refine Run.condF rfl rfl (by simp; omega) ?_
    refine fR rfl ?_
    refine Run.fin rfl (EndOk.sameX rfl rfl rfl hsa ?_)
    exact .tup (.cons (.own (by rw [e])) (.cons (.t rfl) .nil))
  · rintro i v r B h1 hi hd ⟨hBl, hB⟩ ih
    have hBl' : B.length = i := hBl
    obtain ⟨p, hp, rfl, hik⟩ := reps_at h1
    have hpk := hpo p (List.mem_of_getElem? hp)
    have hpc : (ps.map Pl.cs)[lo + i]? = some p.cs := by simp [hp]
    refine fR rfl ?_
    refine Run.condT rfl rfl (by simp; omega) ?_
    refine fR rfl ?_
    refine Mid.lookV (.fpt 5 (lo + i) 0) rfl rfl rfl rfl (open_keys _ _ _) (by rw [mget_open hik]; rfl) rfl ?_
    refine Mid.fast (f := 2) rfl (by (repeat' (first | exact trivial | exact Bool.not_or_self _ | exact grd1 _ | exact grd2 _ | exact grd3 _ _ | exact grd4 _ _ | refine And.intro ?_ ?_ | exact rfl | (simp; done) | (simp <;> omega))); done) ?_
    refine Mid.ldFA (cs := p.cs) rfl rfl hpc (by simp [Pl.cs]) rfl rfl ?_
    skip
    refine Mid.call (copy_ok H p.rep hpk.r) rfl rfl rfl rfl ?_
    refine fM rfl ?_
    refine apM Val.enc B [p.rep] rfl (congrArg (fun c => some (T.lst [c])) (Val.enc_eq p.rep).symm) rfl rfl rfl ?_ (hl := fun x => (congrArg List.length (Val.enc_eq x)).trans rfl)
    refine fM rfl ?_
    refine aL rfl rfl rfl rfl rfl ?_
    refine fM rfl ?_
    exact rWeak 10 rfl (ih (B ++ [p.rep]) ⟨by simp; omega, by rw [← hB]; simp⟩) rfl rfl rfl (hs := (by repeat' (first | exact trivial | refine And.intro ?_ ?_ | exact Or.inl ⟨(Nat.le_of_ble_eq_true rfl), _, rfl, LeO.arr (by simp)⟩ | exact Or.inr ⟨Nat.le_of_ble_eq_true rfl, Nat.le_of_ble_eq_true rfl, rfl⟩ | exact Or.inl ⟨(Nat.le_of_ble_eq_true rfl), _, rfl, AObj.leSame (by first | rfl | exact hb _ (Nat.le_of_ble_eq_true rfl) | exact hob _ (Nat.le_of_ble_eq_true rfl) | (refine open_bd ?_ _ _; exact Nat.le_of_ble_eq_true rfl) | exact pls_bd _ _ | exact V.bds_gE (gT_bds nE _) _ | (refine gE_bd ?_ _; exact Nat.le_of_ble_eq_true rfl))⟩)))
theorem done_stateg (H : Pr P) (m c s f : Int) (nx lo : Nat) (tk : List Int) (ps : List Pl) (xs : List (List T)) (es : List (List T × V)) (hk : keysOk [.int .i64] es = true) (hg : mget [.int .i64 f] es = some (.ptr 4 0)) (hb : ∀ k, 9 ≤ k → V.bds k (es.map (·.2)) = true) : FnOk P 18 [.ptr 1 0, .t (.int .i64 f), .t (.lst xs)] ⟨[(0, .map false es none), (1, .cells [.t (.int .i64 m), .mp 0, .t (.int .i64 c), .t (.int .i64 s)]), (3, .map false (openE 5 lo 0) none), (4, .cells [.gsl 8 tk.length 0 tk.length 1, .gsl 7 (pl ps).length 0 (pl ps).length 1, .t (.int .i64 nx), .mp 3]), (5, .fobs (ps.map Pl.cs)), (7, .gro (pl ps).length (gE (pE 5) (pl ps))), (8, .gro tk.length (gE (gT nE) tk))], 9⟩ { v := .t (.int .i64 12), rd := true } := by
  have hsa : stoBd 9 [(0, .map false es none), (1, .cells [.t (.int .i64 m), .mp 0, .t (.int .i64 c), .t (.int .i64 s)]), (3, .map false (openE 5 lo 0) none), (4, .cells [.gsl 8 tk.length 0 tk.length 1, .gsl 7 (pl ps).length 0 (pl ps).length 1, .t (.int .i64 nx), .mp 3]), (5, .fobs (ps.map Pl.cs)), (7, .gro (pl ps).length (gE (pE 5) (pl ps))), (8, .gro tk.length (gE (gT nE) tk))] = true := (by repeat' (first | exact (rfl : stoBd _ [] = true) | refine stoBd_cons (Nat.le_of_ble_eq_true rfl) ?_ ?_ | exact (by first | rfl | exact hb _ (Nat.le_of_ble_eq_true rfl) | exact hob _ (Nat.le_of_ble_eq_true rfl) | (refine open_bd ?_ _ _; exact Nat.le_of_ble_eq_true rfl) | exact pls_bd _ _ | exact V.bds_gE (gT_bds nE _) _ | (refine gE_bd ?_ _; exact Nat.le_of_ble_eq_true rfl))))
  refine FnOk.run H.i18 H.mixed rfl rfl ?_
  refine fR rfl ?_
  refine Mid.callS (none_ga H m c s _ _ hsa) rfl rfl hsa rfl ?_
  refine fM rfl ?_
  refine Run.condF rfl rfl rfl ?_
  refine fR rfl ?_
  refine Mid.lookV (.ptr 4 0) rfl rfl rfl rfl hk (by rw [hg]; rfl) rfl ?_
  refine fM rfl ?_
  refine Mid.lookVG (gc := true) (.ptr 4 0) rfl rfl rfl rfl rfl hk (by rw [hg]; rfl) ⟨rfl, trivial⟩ ⟨rfl, trivial⟩ rfl ?_
  refine fM rfl ?_
  refine Mid.ungd rfl rfl rfl ?_
  refine Mid.lenmV 0 rfl rfl (open_len _ _ _) rfl ?_
  refine fM rfl ?_
  refine Run.condT rfl rfl rfl ?_
  refine fR rfl ?_
  refine Run.fin rfl (EndOk.sameX rfl rfl rfl hsa (.t rfl))
theorem done_argg (H : Pr P) (m c s f : Int) (nx lo k : Nat) (tk : List Int) (ps : List Pl) (xs : List (List T)) (hx : xs.length < 1000000) (hk0 : 0 < k) (hne : xs.length ≠ k) (es : List (List T × V)) (hk : keysOk [.int .i64] es = true) (hg : mget [.int .i64 f] es = some (.ptr 4 0)) (hb : ∀ k, 9 ≤ k → V.bds k (es.map (·.2)) = true) : FnOk P 18 [.ptr 1 0, .t (.int .i64 f), .t (.lst xs)] ⟨[(0, .map false es none), (1, .cells [.t (.int .i64 m), .mp 0, .t (.int .i64 c), .t (.int .i64 s)]), (3, .map false (openE 5 lo k) none), (4, .cells [.gsl 8 tk.length 0 tk.length 1, .gsl 7 (pl ps).length 0 (pl ps).length 1, .t (.int .i64 nx), .mp 3]), (5, .fobs (ps.map Pl.cs)), (7, .gro (pl ps).length (gE (pE 5) (pl ps))), (8, .gro tk.length (gE (gT nE) tk))], 9⟩ { v := .t (.int .i64 2), rd := true } := by
  have hsa : stoBd 9 [(0, .map false es none), (1, .cells [.t (.int .i64 m), .mp 0, .t (.int .i64 c), .t (.int .i64 s)]), (3, .map false (openE 5 lo k) none), (4, .cells [.gsl 8 tk.length 0 tk.length 1, .gsl 7 (pl ps).length 0 (pl ps).length 1, .t (.int .i64 nx), .mp 3]), (5, .fobs (ps.map Pl.cs)), (7, .gro (pl ps).length (gE (pE 5) (pl ps))), (8, .gro tk.length (gE (gT nE) tk))] = true := (by repeat' (first | exact (rfl : stoBd _ [] = true) | refine stoBd_cons (Nat.le_of_ble_eq_true rfl) ?_ ?_ | exact (by first | rfl | exact hb _ (Nat.le_of_ble_eq_true rfl) | exact hob _ (Nat.le_of_ble_eq_true rfl) | (refine open_bd ?_ _ _; exact Nat.le_of_ble_eq_true rfl) | exact pls_bd _ _ | exact V.bds_gE (gT_bds nE _) _ | (refine gE_bd ?_ _; exact Nat.le_of_ble_eq_true rfl))))
  refine FnOk.run H.i18 H.mixed rfl rfl ?_
  refine fR rfl ?_
  refine Mid.callS (none_ga H m c s _ _ hsa) rfl rfl hsa rfl ?_
  refine fM rfl ?_
  refine Run.condF rfl rfl rfl ?_
  refine fR rfl ?_
  refine Mid.lookV (.ptr 4 0) rfl rfl rfl rfl hk (by rw [hg]; rfl) rfl ?_
  refine fM rfl ?_
  refine Mid.lookVG (gc := true) (.ptr 4 0) rfl rfl rfl rfl rfl hk (by rw [hg]; rfl) ⟨rfl, trivial⟩ ⟨rfl, trivial⟩ rfl ?_
  refine fM rfl ?_
  refine Mid.ungd rfl rfl rfl ?_
  refine Mid.lenmV k rfl rfl (open_len _ _ _) rfl ?_
  refine fM rfl ?_
  refine Run.condF rfl rfl (by simp; omega) ?_
  refine fR rfl ?_
  refine Mid.lookV (.ptr 4 0) rfl rfl rfl rfl hk (by rw [hg]; rfl) rfl ?_
  refine fM rfl ?_
  refine p0 rfl ?_
  refine fM rfl ?_
  refine Mid.lenmV k rfl rfl (open_len _ _ _) rfl ?_
  refine fM rfl ?_
  refine Run.condT rfl rfl (by simp; omega) ?_
  refine fR rfl ?_
  refine Run.fin rfl (EndOk.sameX rfl rfl rfl hsa (.t rfl))
theorem take_badg (H : Pr P) (m c s f nx : Int) (tk : List Int) (ps : List Pl) (op es : List (List T × V)) (n : Int) (hn : n < 0 ∨ (tk.length : Int) ≤ n) (hk : keysOk [.int .i64] es = true) (hg : mget [.int .i64 f] es = some (.ptr 4 0)) (hb : ∀ k, 9 ≤ k → V.bds k (es.map (·.2)) = true) (hob : ∀ k, 9 ≤ k → V.bds k (op.map (·.2)) = true) : FnOk P 19 [.ptr 1 0, .t (.int .i64 f), .t (.int .i64 n)] ⟨[(0, .map false es none), (1, .cells [.t (.int .i64 m), .mp 0, .t (.int .i64 c), .t (.int .i64 s)]), (3, .map false op none), (4, .cells [.gsl 8 tk.length 0 tk.length 1, .gsl 7 (pl ps).length 0 (pl ps).length 1, .t (.int .i64 nx), .mp 3]), (5, .fobs (ps.map Pl.cs)), (7, .gro (pl ps).length (gE (pE 5) (pl ps))), (8, .gro tk.length (gE (gT nE) tk))], 9⟩ { v := .tup [Val.zero.v, .t (.bool false)], rd := true } := by
  have hsa : stoBd 9 [(0, .map false es none), (1, .cells [.t (.int .i64 m), .mp 0, .t (.int .i64 c), .t (.int .i64 s)]), (3, .map false op none), (4, .cells [.gsl 8 tk.length 0 tk.length 1, .gsl 7 (pl ps).length 0 (pl ps).length 1, .t (.int .i64 nx), .mp 3]), (5, .fobs (ps.map Pl.cs)), (7, .gro (pl ps).length (gE (pE 5) (pl ps))), (8, .gro tk.length (gE (gT nE) tk))] = true := (by repeat' (first | exact (rfl : stoBd _ [] = true) | refine stoBd_cons (Nat.le_of_ble_eq_true rfl) ?_ ?_ | exact (by first | rfl | exact hb _ (Nat.le_of_ble_eq_true rfl) | exact hob _ (Nat.le_of_ble_eq_true rfl) | (refine open_bd ?_ _ _; exact Nat.le_of_ble_eq_true rfl) | exact pls_bd _ _ | exact V.bds_gE (gT_bds nE _) _ | (refine gE_bd ?_ _; exact Nat.le_of_ble_eq_true rfl))))
  have hsb : stoBd 10 [(0, .map false es none), (1, .cells [.t (.int .i64 m), .mp 0, .t (.int .i64 c), .t (.int .i64 s)]), (3, .map false op none), (4, .cells [.gsl 8 tk.length 0 tk.length 1, .gsl 7 (pl ps).length 0 (pl ps).length 1, .t (.int .i64 nx), .mp 3]), (5, .fobs (ps.map Pl.cs)), (7, .gro (pl ps).length (gE (pE 5) (pl ps))), (8, .gro tk.length (gE (gT nE) tk)), (9, .cells [.t (.int .i64 0), .t (.int .i64 0), .t (.str []), .nils, .nils])] = true := (by repeat' (first | exact (rfl : stoBd _ [] = true) | refine stoBd_cons (Nat.le_of_ble_eq_true rfl) ?_ ?_ | exact (by first | rfl | exact hb _ (Nat.le_of_ble_eq_true rfl) | exact hob _ (Nat.le_of_ble_eq_true rfl) | (refine open_bd ?_ _ _; exact Nat.le_of_ble_eq_true rfl) | exact pls_bd _ _ | exact V.bds_gE (gT_bds nE _) _ | (refine gE_bd ?_ _; exact Nat.le_of_ble_eq_true rfl))))
  refine FnOk.run H.i19 H.mixed rfl rfl ?_
  refine fR rfl ?_
  refine Mid.callS (none_gb H m c s _ _ hsb) rfl rfl hsb rfl ?_
  refine fM rfl ?_
  refine Mid.lookVG (.ptr 4 0) rfl rfl rfl rfl rfl (hk) (by rw [hg]; rfl) (by (repeat' (first | exact trivial | exact Bool.not_or_self _ | exact grd1 _ | exact grd2 _ | exact grd3 _ _ | exact grd4 _ _ | refine And.intro ?_ ?_ | exact rfl | (simp; done) | (simp <;> omega))); done) (by (repeat' (first | exact trivial | exact Bool.not_or_self _ | exact grd1 _ | exact grd2 _ | exact grd3 _ _ | exact grd4 _ _ | refine And.intro ?_ ?_ | exact rfl | (simp; done) | (simp <;> omega))); done) rfl ?_
  refine fM rfl ?_
  refine Mid.lookVG (.ptr 4 0) rfl rfl rfl rfl rfl (hk) (by rw [hg]; rfl) (by (repeat' (first | exact trivial | exact Bool.not_or_self _ | exact grd1 _ | exact grd2 _ | exact grd3 _ _ | exact grd4 _ _ | refine And.intro ?_ ?_ | exact rfl | (simp; done) | (simp <;> omega))); done) (by (repeat' (first | exact trivial | exact Bool.not_or_self _ | exact grd1 _ | exact grd2 _ | exact grd3 _ _ | exact grd4 _ _ | refine And.intro ?_ ?_ | exact rfl | (simp; done) | (simp <;> omega))); done) rfl ?_
  refine fM rfl ?_
  refine gr rfl ?_
  refine fM rfl ?_
  refine Run.condT rfl rfl (by simp; omega) ?_
  refine fR rfl ?_
  refine Run.fin rfl (EndOk.sameX rfl rfl rfl hsa ?_)
  exact .tup (.cons zeroR (.cons (.t rfl) .nil))
end Go.GB.C35


/-
  L36K: chapter 35: what a loader's methods do, for any number of queues.
-/
namespace Go.GB.C35
open Go.GB
set_option linter.unusedSimpArgs false
set_option linter.unusedVariables false
variable {P : Program}

/-- the queue of a fetch -/
def qix (f : Int) (qs : List Q) : Option Nat := qs.findIdx? fun q => decide (q.f = f)
theorem qix_some {f : Int} {qs : List Q} {j : Nat} (h : qix f qs = some j) : ∃ q, qs[j]? = some q ∧ q.f = f ∧ ∀ i, i < j → ∀ p, qs[i]? = some p → p.f ≠ f := by
  obtain ⟨hlt, h1, h2⟩ := List.findIdx?_eq_some_iff_getElem.1 h
  refine ⟨qs[j], by simp [hlt], by simpa using h1, fun i hi p hp => ?_⟩
  obtain ⟨hl, rfl⟩ := List.getElem?_eq_some_iff.1 hp
  simpa using h2 i hi
theorem qix_none {f : Int} {qs : List Q} (h : qix f qs = none) : ∀ (i : Nat) (p : Q), qs[i]? = some p → p.f ≠ f := by
  intro i p hp
  have := List.findIdx?_eq_none_iff.1 h p (List.mem_of_getElem? hp)
  simpa using this

theorem keyEqI (a b : Int) : keyEq [.int .i64 a] [.int .i64 b] = decide (a = b) := by
  simp only [keyEq, T.eqb, Bool.and_true]
  by_cases h : a = b
  · subst h; simp
  · simp [h]
theorem mget_at {f : Int} {v : V} : ∀ {es : List (List T × V)} {i : Nat}, es[i]? = some ([.int .i64 f], v) → (∀ i', i' < i → ∀ e, es[i']? = some e → ∃ g : Int, e.1 = [.int .i64 g] ∧ g ≠ f) → mget [.int .i64 f] es = some v
  | [], i, h, _ => by simp at h
  | e :: r, 0, h, _ => by
    simp at h; subst h
    simp [mget, keyEqI]
  | e :: r, i + 1, h, hb => by
    obtain ⟨g, h1, h2⟩ := hb 0 (by omega) e rfl
    have ih := mget_at (es := r) (i := i) (by simpa using h) fun i' hi e' he' => hb (i' + 1) (by omega) e' (by simpa using he')
    simp only [mget, h1, keyEqI]
    rw [ih]; simp [Ne.symm h2]
theorem mget_no {f : Int} {v : V} : ∀ {es : List (List T × V)}, (∀ e, e ∈ es → ∃ g : Int, e.1 = [.int .i64 g] ∧ g ≠ f) → mget [.int .i64 f] es = none ∧ mset [.int .i64 f] v es = es ++ [([.int .i64 f], v)]
  | [], _ => ⟨rfl, rfl⟩
  | e :: r, h => by
    obtain ⟨g, h1, h2⟩ := h e (by simp)
    obtain ⟨i1, i2⟩ := mget_no (v := v) (es := r) fun e' he' => h e' (by simp [he'])
    simp only [mget, mset, h1, keyEqI, Ne.symm h2, decide_false, Bool.false_eq_true, if_false, List.cons_append]
    exact ⟨i1, by rw [i2]⟩

section
variable {bq : Nat → Nat} {qs : List Q} {j : Nat}
theorem esOf_mem {e : List T × V} (h : e ∈ esOf bq qs j) : ∃ i q, qs[i]? = some q ∧ e = esAt bq j i q := by
  obtain ⟨i, hi⟩ := List.getElem?_of_mem h
  simp only [esOf, List.getElem?_mapIdx, Option.map_eq_some_iff] at hi
  obtain ⟨q, hq, rfl⟩ := hi
  exact ⟨i, q, hq, rfl⟩
theorem es_keys : keysOk [.int .i64] (esOf bq qs j) = true := by
  rw [keysOk, List.all_eq_true]
  intro e he
  obtain ⟨i, q, _, rfl⟩ := esOf_mem he
  simp [esAt, keyOk, KSh.ok]
theorem bds_of {m : Nat} : ∀ {cs : List V}, (∀ c, c ∈ cs → c.bd m = true) → V.bds m cs = true
  | [], _ => rfl
  | x :: r, h => by simp [V.bds, h x (by simp), bds_of (cs := r) fun c hc => h c (by simp [hc])]
theorem es_bds {k : Nat} (h : 9 ≤ k ∨ qs.length ≤ j) : V.bds k ((esOf bq qs j).map (·.2)) = true := by
  refine bds_of fun c hc => ?_
  simp only [List.mem_map] at hc
  obtain ⟨e, he, rfl⟩ := hc
  obtain ⟨i, q, hq, rfl⟩ := esOf_mem he
  simp only [esAt]
  split
  · rename_i e'; subst e'
    have := (List.getElem?_eq_some_iff.1 hq).1
    simp only [V.bd, decide_eq_true_eq]; omega
  · rfl
theorem es_get {f : Int} (h : qix f qs = some j) : mget [.int .i64 f] (esOf bq qs j) = some (.ptr 4 0) := by
  obtain ⟨q, h1, h2, h3⟩ := qix_some h
  refine mget_at (i := j) (by simp [esOf, h1, esAt, h2]) fun i' hi e he => ?_
  simp only [esOf, List.getElem?_mapIdx, Option.map_eq_some_iff] at he
  obtain ⟨p, hp, rfl⟩ := he
  exact ⟨p.f, rfl, h3 i' hi p hp⟩
theorem es_no {f : Int} (h : qix f qs = none) (v : V) : mget [.int .i64 f] (esOf bq qs j) = none ∧ mset [.int .i64 f] v (esOf bq qs j) = esOf bq qs j ++ [([.int .i64 f], v)] := by
  refine mget_no fun e he => ?_
  obtain ⟨i, q, hq, rfl⟩ := esOf_mem he
  exact ⟨q.f, rfl, qix_none h i q hq⟩
end

structure QOk (B : Nat) (q : Q) : Prop where
  f : 0 ≤ q.f
  tl : q.tk.length ≤ B
  pl : q.ps.length ≤ B
  tk : ∀ t, t ∈ q.tk → 0 ≤ t ∧ t < q.ps.length
  ps : ∀ p, p ∈ q.ps → p.Ok
  nx : q.lo + q.k = q.nx ∨ q.k = 0
  le : q.nx ≤ q.ps.length
structure LOk (B : Nat) (σ : LS) : Prop where
  b : B ≤ 1000
  m : 1 ≤ σ.m ∧ σ.m ≤ 1024
  c : 0 ≤ σ.c ∧ σ.c ≤ B
  s : 0 ≤ σ.s ∧ σ.s ≤ B
  q : ∀ (j : Nat) (q : Q), σ.qs[j]? = some q → QOk B q

def addQ (q : Q) (v : Val) : Q := ⟨q.f, q.tk ++ [(addAt q.ps v : Int)], addPs q.ps v, q.nx, q.lo, q.k⟩
def newQ (f : Int) (v : Val) : Q := ⟨f, [0], [⟨v, Val.zero, false⟩], 0, 0, 0⟩
def addL (σ : LS) (f : Int) (v : Val) : (Int × Int) × LS :=
  if f < 0 then ((0, 2), σ) else
  match qix f σ.qs with
  | some j => match σ.qs[j]? with
    | some q => (((q.tk.length : Int), 0), ⟨σ.m, σ.c, σ.s + addS q.ps v, σ.qs.set j (addQ q v)⟩)
    | none => ((0, 0), σ)
  | none => ((0, 0), ⟨σ.m, σ.c, σ.s, σ.qs ++ [newQ f v]⟩)
def nextQ (m : Int) (q : Q) : Q := ⟨q.f, q.tk, q.ps, q.nx + batch m q.nx q.ps, q.nx, batch m q.nx q.ps⟩
def nextL (σ : LS) (f : Int) : (List Val × Bool) × LS :=
  match qix f σ.qs with
  | some j => match σ.qs[j]? with
    | some q => if q.k = 0 then ((reps q.nx (batch σ.m q.nx q.ps) q.ps, decide (q.nx < q.ps.length)), ⟨σ.m, σ.c + if q.nx < q.ps.length then 1 else 0, σ.s, σ.qs.set j (nextQ σ.m q)⟩) else ((reps q.lo q.k q.ps, true), σ)
    | none => (([], false), σ)
  | none => (([], false), σ)
def doneQ (q : Q) (rs : List Val) : Q := ⟨q.f, q.tk, setR q.ps q.lo rs, q.nx, q.lo, 0⟩
def doneL (σ : LS) (f : Int) (rs : List Val) : Int × LS :=
  match qix f σ.qs with
  | some j => match σ.qs[j]? with
    | some q => if q.k = 0 then (12, σ) else if rs.length = q.k then (0, ⟨σ.m, σ.c, σ.s, σ.qs.set j (doneQ q rs)⟩) else (2, σ)
    | none => (12, σ)
  | none => (12, σ)
def takeQ (q : Q) (n : Int) : Val × Bool :=
  if n < 0 ∨ (q.tk.length : Int) ≤ n then (Val.zero, false) else
  match q.tk[n.toNat]? with
  | some t => match q.ps[t.toNat]? with
    | some p => (if p.ld then p.res else Val.zero, p.ld)
    | none => (Val.zero, false)
  | none => (Val.zero, false)
def takeL (σ : LS) (f n : Int) : Val × Bool :=
  match qix f σ.qs with
  | some j => match σ.qs[j]? with
    | some q => takeQ q n
    | none => (Val.zero, false)
  | none => (Val.zero, false)

theorem add_abs (H : Pr P) {B : Nat} {σ : LS} (hσ : LOk B σ) (f : Int) (v : Val) (hv : v.Ok) : FnOk P 16 [.fpt 0 0 0, .t (.int .i64 f), v.v] ⟨[(0, .abs (JL σ))], 1⟩ { v := .tup [.t (.int .i64 (addL σ f v).1.1), .t (.int .i64 (addL σ f v).1.2)], ob := [(0, .abs (JL (addL σ f v).2))], rd := true } := by
  have hB := hσ.b
  have hm := hσ.m
  have hc := hσ.c
  have hs := hσ.s
  by_cases hf : f < 0
  · simp only [addL, hf, if_true]
    refine pack (j := σ.qs.length) (Nat.le_refl _) rfl rfl fun bq => ⟨_, ?_, rfl, upd_same bq (Nat.le_refl _)⟩
    obtain ⟨e1, e2⟩ := stoL_none (σ := σ) bq (Nat.le_refl _)
    rw [e1, e2]
    exact add_neg H σ.m σ.c σ.s f _ hf v hv (fun k _ => es_bds (.inr (Nat.le_refl _)))
  · simp only [addL, hf, if_false]
    cases hj : qix f σ.qs with
    | none =>
      simp only
      refine pack (j := σ.qs.length) (Nat.le_refl _) rfl rfl fun bq => ⟨_, ?_, rfl, upd_push bq⟩
      obtain ⟨e1, e2⟩ := stoL_none (σ := σ) bq (Nat.le_refl _)
      rw [e1, e2]
      obtain ⟨g1, g2⟩ := es_no (bq := bq) (j := σ.qs.length) hj (.ptr 4 0)
      exact add_newg H σ.m σ.c σ.s f _ (by omega) v hv es_keys g1 (fun k _ => es_bds (.inr (Nat.le_refl _))) _ g2 (fun k hk => by
        refine bds_of fun c hc => ?_
        simp only [List.map_append, List.mem_append, List.map_cons, List.map_nil, List.mem_singleton] at hc
        rcases hc with hc | rfl
        · obtain ⟨i, hi⟩ := List.getElem?_of_mem hc
          exact V.bds_at (es_bds (.inr (Nat.le_refl _))) i c hi
        · simp only [V.bd, decide_eq_true_eq]; omega)
    | some j =>
      obtain ⟨q, h1, h2, h3⟩ := qix_some hj
      have hq := hσ.q j q h1
      have hlt := (List.getElem?_eq_some_iff.1 h1).1
      simp only [h1]
      refine pack (j := j) (by omega) rfl rfl fun bq => ⟨_, ?_, rfl, upd_q (q' := addQ q v) h1 rfl bq⟩
      obtain ⟨e1, e2⟩ := stoL_some h1 bq
      rw [e1, e2]
      have := hq.tl; have := hq.pl
      exact add_okg H σ.m σ.c σ.s f q.nx q.tk q.ps (openE 5 q.lo q.k) (esOf bq σ.qs j) (by omega) v hv (by omega) (by omega) (by omega) hq.ps es_keys (es_get hj) (fun k hk => es_bds (.inl hk)) (fun k hk => open_bd (by omega) _ _)

theorem next_abs (H : Pr P) {B : Nat} {σ : LS} (hσ : LOk B σ) (f : Int) : FnOk P 17 [.fpt 0 0 0, .t (.int .i64 f)] ⟨[(0, .abs (JL σ))], 1⟩ { v := .tup [.t (.lst ((nextL σ f).1.1.map Val.enc)), .t (.bool (nextL σ f).1.2)], ob := [(0, .abs (JL (nextL σ f).2))], rd := true } := by
  have hB := hσ.b
  have hm := hσ.m
  have hc := hσ.c
  have hs := hσ.s
  cases hj : qix f σ.qs with
  | none =>
    simp only [nextL, hj]
    refine pack (j := σ.qs.length) (Nat.le_refl _) rfl rfl fun bq => ⟨_, ?_, rfl, upd_same bq (Nat.le_refl _)⟩
    obtain ⟨e1, e2⟩ := stoL_none (σ := σ) bq (Nat.le_refl _)
    rw [e1, e2]
    exact next_none H σ.m σ.c σ.s f _ es_keys (es_no hj .nils).1 (fun k _ => es_bds (.inr (Nat.le_refl _)))
  | some j =>
    obtain ⟨q, h1, h2, h3⟩ := qix_some hj
    have hq := hσ.q j q h1
    have hlt := (List.getElem?_eq_some_iff.1 h1).1
    have := hq.tl; have := hq.pl
    simp only [nextL, hj, h1]
    by_cases hk : q.k = 0
    · simp only [hk, if_true]
      refine pack (j := j) (by omega) rfl rfl fun bq => ⟨_, ?_, rfl, upd_q (q' := nextQ σ.m q) h1 rfl bq⟩
      obtain ⟨e1, e2⟩ := stoL_some h1 bq
      rw [e1, e2]
      have := next_okg H σ.m σ.c σ.s f q.nx q.tk q.ps (esOf bq σ.qs j) (by omega) hm (by omega) hq.le hq.ps es_keys (es_get hj) (fun k hk => es_bds (.inl hk))
      have e : qSto q = (3, .map false [] none) :: (qSto q).tail := by simp [qSto, hk, openE]
      rw [e]
      exact this
    · simp only [hk, if_false]
      refine pack (j := j) (by omega) rfl rfl fun bq => ⟨_, ?_, rfl, upd_same bq (by omega)⟩
      obtain ⟨e1, e2⟩ := stoL_some h1 bq
      rw [e1, e2]
      have h5 := hq.nx
      have h6 := hq.le
      exact next_openg H σ.m σ.c σ.s f q.nx q.lo q.k q.tk q.ps (esOf bq σ.qs j) (by omega) (by omega) (by omega) hq.ps es_keys (es_get hj) (fun k hk => es_bds (.inl hk))

theorem done_abs (H : Pr P) {B : Nat} {σ : LS} (hσ : LOk B σ) (f : Int) (rs : List Val) (hr : ∀ v, v ∈ rs → v.Ok) (hrl : rs.length < 1000000) : FnOk P 18 [.fpt 0 0 0, .t (.int .i64 f), .t (.lst (rs.map Val.enc))] ⟨[(0, .abs (JL σ))], 1⟩ { v := .t (.int .i64 (doneL σ f rs).1), ob := [(0, .abs (JL (doneL σ f rs).2))], rd := true } := by
  have hB := hσ.b
  cases hj : qix f σ.qs with
  | none =>
    simp only [doneL, hj]
    refine pack (j := σ.qs.length) (Nat.le_refl _) rfl rfl fun bq => ⟨_, ?_, rfl, upd_same bq (Nat.le_refl _)⟩
    obtain ⟨e1, e2⟩ := stoL_none (σ := σ) bq (Nat.le_refl _)
    rw [e1, e2]
    exact done_none H σ.m σ.c σ.s f _ _ es_keys (es_no hj .nils).1 (fun k _ => es_bds (.inr (Nat.le_refl _)))
  | some j =>
    obtain ⟨q, h1, h2, h3⟩ := qix_some hj
    have hq := hσ.q j q h1
    have hlt := (List.getElem?_eq_some_iff.1 h1).1
    have := hq.tl; have := hq.pl
    simp only [doneL, hj, h1]
    by_cases hk : q.k = 0
    · simp only [hk, if_true]
      refine pack (j := j) (by omega) rfl rfl fun bq => ⟨_, ?_, rfl, upd_same bq (by omega)⟩
      obtain ⟨e1, e2⟩ := stoL_some h1 bq
      rw [e1, e2]
      have := done_stateg H σ.m σ.c σ.s f q.nx q.lo q.tk q.ps (rs.map Val.enc) (esOf bq σ.qs j) es_keys (es_get hj) (fun k hk => es_bds (.inl hk))
      have e : qSto q = (3, .map false (openE 5 q.lo 0) none) :: (qSto q).tail := by simp [qSto, hk]
      rw [e]
      exact this
    · simp only [hk, if_false]
      by_cases hl : rs.length = q.k
      · simp only [hl, if_true]
        refine pack (j := j) (by omega) rfl rfl fun bq => ⟨_, ?_, rfl, upd_q (q' := doneQ q rs) h1 rfl bq⟩
        obtain ⟨e1, e2⟩ := stoL_some h1 bq
        rw [e1, e2]
        have h5 := hq.nx
        have h6 := hq.le
        have := done_okg H σ.m σ.c σ.s f q.nx q.lo q.tk q.ps rs (esOf bq σ.qs j) (by omega) hr hrl (by omega) (by omega) hq.ps es_keys (es_get hj) (fun k hk => es_bds (.inl hk))
        rw [hl] at this
        exact this
      · simp only [hl, if_false]
        refine pack (j := j) (by omega) rfl rfl fun bq => ⟨_, ?_, rfl, upd_same bq (by omega)⟩
        obtain ⟨e1, e2⟩ := stoL_some h1 bq
        rw [e1, e2]
        exact done_argg H σ.m σ.c σ.s f q.nx q.lo q.k q.tk q.ps (rs.map Val.enc) (by simpa using hrl) (by omega) (by simpa using hl) (esOf bq σ.qs j) es_keys (es_get hj) (fun k hk => es_bds (.inl hk))

theorem take_abs (H : Pr P) {B : Nat} {σ : LS} (hσ : LOk B σ) (f n : Int) : FnOk P 19 [.fpt 0 0 0, .t (.int .i64 f), .t (.int .i64 n)] ⟨[(0, .abs (JL σ))], 1⟩ { v := .tup [(takeL σ f n).1.v, .t (.bool (takeL σ f n).2)], ob := [(0, .abs (JL σ))], rd := true } := by
  have hB := hσ.b
  cases hj : qix f σ.qs with
  | none =>
    simp only [takeL, hj]
    refine pack (j := σ.qs.length) (Nat.le_refl _) rfl rfl fun bq => ⟨_, ?_, rfl, upd_same bq (Nat.le_refl _)⟩
    obtain ⟨e1, e2⟩ := stoL_none (σ := σ) bq (Nat.le_refl _)
    rw [e1, e2]
    exact take_none H σ.m σ.c σ.s f n _ es_keys (es_no hj .nils).1 (fun k _ => es_bds (.inr (Nat.le_refl _)))
  | some j =>
    obtain ⟨q, h1, h2, h3⟩ := qix_some hj
    have hq := hσ.q j q h1
    have hlt := (List.getElem?_eq_some_iff.1 h1).1
    have := hq.tl; have := hq.pl
    simp only [takeL, hj, h1]
    by_cases hn : n < 0 ∨ (q.tk.length : Int) ≤ n
    · simp only [takeQ, hn, if_true]
      refine pack (j := j) (by omega) rfl rfl fun bq => ⟨_, ?_, rfl, upd_same bq (by omega)⟩
      obtain ⟨e1, e2⟩ := stoL_some h1 bq
      rw [e1, e2]
      exact take_badg H σ.m σ.c σ.s f q.nx q.tk q.ps (openE 5 q.lo q.k) (esOf bq σ.qs j) n hn es_keys (es_get hj) (fun k hk => es_bds (.inl hk)) (fun k hk => open_bd (by omega) _ _)
    · simp only [takeQ, hn, if_false]
      obtain ⟨N, rfl⟩ : ∃ N : Nat, n = N := ⟨n.toNat, by omega⟩
      have hNl : N < q.tk.length := by omega
      have ht := List.getElem?_eq_getElem hNl
      have htk := hq.tk _ (List.getElem_mem hNl)
      obtain ⟨a, ha⟩ : ∃ a : Nat, q.tk[N] = a := ⟨q.tk[N].toNat, by omega⟩
      rw [ha] at ht htk
      have hal : a < q.ps.length := by omega
      have hp := List.getElem?_eq_getElem hal
      simp only [Int.toNat_natCast, ht, hp]
      refine pack (j := j) (by omega) rfl rfl fun bq => ⟨_, ?_, rfl, upd_same bq (by omega)⟩
      obtain ⟨e1, e2⟩ := stoL_some h1 bq
      rw [e1, e2]
      exact take_okg H σ.m σ.c σ.s f q.nx q.tk q.ps (openE 5 q.lo q.k) (esOf bq σ.qs j) N a _ ht hp (hq.ps _ (List.getElem_mem hal)) (by omega) (by omega) es_keys (es_get hj) (fun k hk => es_bds (.inl hk)) (fun k hk => open_bd (by omega) _ _)

theorem calls_abs (H : Pr P) (σ : LS) : FnOk P 12 [.fpt 0 0 0] ⟨[(0, .abs (JL σ))], 1⟩ { v := .t (.int .i64 σ.c), ob := [(0, .abs (JL σ))], rd := true } := by
  refine pack (j := σ.qs.length) (Nat.le_refl _) rfl rfl fun bq => ⟨_, ?_, rfl, upd_same bq (Nat.le_refl _)⟩
  obtain ⟨e1, e2⟩ := stoL_none (σ := σ) bq (Nat.le_refl _)
  rw [e1, e2]
  have hb : V.bds 2 ((esOf bq σ.qs σ.qs.length).map (·.2)) = true := es_bds (.inr (Nat.le_refl _))
  exact calls_2 H σ.m σ.c σ.s _ (stoBd_cons (by decide) hb rfl)
theorem saved_abs (H : Pr P) (σ : LS) : FnOk P 14 [.fpt 0 0 0] ⟨[(0, .abs (JL σ))], 1⟩ { v := .t (.int .i64 σ.s), ob := [(0, .abs (JL σ))], rd := true } := by
  refine pack (j := σ.qs.length) (Nat.le_refl _) rfl rfl fun bq => ⟨_, ?_, rfl, upd_same bq (Nat.le_refl _)⟩
  obtain ⟨e1, e2⟩ := stoL_none (σ := σ) bq (Nat.le_refl _)
  rw [e1, e2]
  have hb : V.bds 2 ((esOf bq σ.qs σ.qs.length).map (·.2)) = true := es_bds (.inr (Nat.le_refl _))
  exact saved_2 H σ.m σ.c σ.s _ (stoBd_cons (by decide) hb rfl)
theorem new_abs (H : Pr P) (n : Int) (h1 : 1 ≤ n) (h2 : n ≤ 1024) : FnOk P 7 [.t (.int .i64 n)] ⟨[], 0⟩ { v := .tup [.fpt 0 0 0, .t (.int .i64 0)], ob := [(0, .abs (JL ⟨n, 0, 0, []⟩))], n := 1 } := packNew rfl (new_ok H n h1 h2)
end Go.GB.C35


/-
  L35M: chapter 35: the chapter's examples.
-/
namespace Go.GB.C35
open Go.GB
set_option linter.unusedSimpArgs false
set_option linter.unusedVariables false
set_option maxRecDepth 100000
set_option maxHeartbeats 16000000
variable {P : Program}
theorem renOb_cons {ρ : Nat → Nat} {k k' : Nat} {o o' : AObj} {r r' : List (Nat × AObj)} (h1 : ρ k = k') (h2 : o.ren ρ = o') (h3 : renOb ρ r = r') : renOb ρ ((k, o) :: r) = (k', o') :: r' := by
  simp [renOb, h1, h2, h3]
theorem ren_pls (ρ : Nat → Nat) (ps : List Pl) : (AObj.fobs (ps.map Pl.cs)).ren ρ = .fobs (ps.map Pl.cs) := by
  simp only [AObj.ren, List.map_map]
  congr 1
theorem ren_open {ρ : Nat → Nat} {F F' : Nat} (h : ρ F = F') (nx n : Nat) (st : Option (Nat × List Nat)) : (AObj.map false (openE F nx n) st).ren ρ = .map false (openE F' nx n) st := by
  subst h
  simp only [AObj.ren, openE, List.map_map]
  congr 1
theorem mkI_k (n : Int) : (mkI n).Ok := .mk (by decide) (by decide) (by simp [mkI, Val.items]) (by simp [mkI, Val.keys]) (by simp [mkI, Val.text])
theorem mkT_k (s : Str) (h : s.length ≤ 140737488355328) : (mkT s).Ok := .mk (by simp [mkT, Val.items]) (by simp [mkT, Val.keys]) (by simp [mkT, Val.items]) (by simp [mkT, Val.text, h]) (by simp [mkT, Val.keys])
def kA : List Pl := [⟨mkI 7, Val.zero, false⟩]
def kB : List Pl := [⟨mkI 7, Val.zero, false⟩, ⟨mkT [98], Val.zero, false⟩]
def kC : List Pl := [⟨mkI 7, mkI 1, true⟩, ⟨mkT [98], mkI 2, true⟩]
theorem k_ne : sameV (mkI 7) (mkT [98]) = false := by
  simp [sameV, cmpV_eq, mkI, mkT, Val.kind, cmpI]
theorem fnd_b : fnd kA (mkT [98]) = none := by simp [fnd, kA, k_ne]
theorem fnd_a : fnd kB (mkI 7) = some 0 := by simp [fnd_cons, kB, sameV_refl]
theorem kB_ok : ∀ p, p ∈ kB → p.Ok := by
  intro p hp
  simp [kB] at hp
  rcases hp with rfl | rfl
  · exact ⟨mkI_k 7, Val.zero_ok⟩
  · exact ⟨mkT_k _ (by decide), Val.zero_ok⟩
theorem knows_ok (H : Pr P) : FnOk P 10 [] ⟨[], 0⟩ { v := .t (.bool true) } := by
  have h2 := add_ok H 2 0 0 0 0 [0] kA [] [([.int .i64 (0 : Int)], .ptr 4 0)] (by decide) (mkT [98]) (mkT_k _ (by decide)) (by decide) (by decide) (by decide) (fun p hp => kB_ok p (by simp [kA] at hp; simp [kB, hp])) rfl rfl (fun m h => by simp [V.bds, V.bd]; omega) (fun _ _ => rfl)
  rw [show addS kA (mkT [98]) = 0 by simp [addS, fnd_b], show addAt kA (mkT [98]) = 1 by rw [addAt, fnd_b]; rfl, show addPs kA (mkT [98]) = kB by simp [addPs, fnd_b]; rfl] at h2
  have h3 := add_ok H 2 0 0 0 0 [0, 1] kB [] [([.int .i64 (0 : Int)], .ptr 4 0)] (by decide) (mkI 7) (mkI_k _) (by decide) (by decide) (by decide) kB_ok rfl rfl (fun m h => by simp [V.bds, V.bd]; omega) (fun _ _ => rfl)
  rw [show addS kB (mkI 7) = 1 by simp [addS, fnd_a], show addAt kB (mkI 7) = 0 by simp [addAt, fnd_a], show addPs kB (mkI 7) = kB by simp [addPs, fnd_a]] at h3
  have h4 := next_ok H 2 0 1 0 0 [0, 1, 0] kB [([.int .i64 (0 : Int)], .ptr 4 0)] (by decide) (by decide) (by decide) (by decide) kB_ok rfl rfl (fun m h => by simp [V.bds, V.bd]; omega)
  have h5 := done_ok H 2 1 1 0 2 0 [0, 1, 0] kB [mkI 1, mkI 2] [([.int .i64 (0 : Int)], .ptr 4 0)] (by decide) (by intro v hv; simp at hv; rcases hv with rfl | rfl <;> exact mkI_k _) (by decide) (by decide) (by decide) kB_ok rfl rfl (fun m h => by simp [V.bds, V.bd]; omega)
  have h6 := take_ok H 2 1 1 0 2 [0, 1, 0] kC [] [([.int .i64 (0 : Int)], .ptr 4 0)] 2 0 ⟨mkI 7, mkI 1, true⟩ rfl rfl ⟨mkI_k 7, mkI_k 1⟩ (by decide) (by decide) rfl rfl (fun m h => by simp [V.bds, V.bd]; omega) (fun _ _ => rfl)
  have h7 := calls_ok H 2 1 1 (.map false [([.int .i64 (0 : Int)], .ptr 4 0)] none) [(3, .map false [] none), (4, .cells [.own 8 1 ([(0 : Int), 1, 0].map nE), .gsl 7 (pl kC).length 0 (pl kC).length 1, .t (.int .i64 2), .mp 3]), (5, .fobs (kC.map Pl.cs)), (7, .gro (pl kC).length (gE (pE 5) (pl kC))), (8, .arr [(0 : Int), 1, 0].length)] (by repeat' (first | exact (rfl : stoBd _ [] = true) | refine stoBd_cons (Nat.le_of_ble_eq_true rfl) ?_ ?_ | exact (by first | rfl | (refine open_bd ?_ _ _; exact Nat.le_of_ble_eq_true rfl) | exact pls_bd _ _ | (refine gE_bd ?_ _; exact Nat.le_of_ble_eq_true rfl))))
  have h8 := saved_ok H 2 1 1 (.map false [([.int .i64 (0 : Int)], .ptr 4 0)] none) [(3, .map false [] none), (4, .cells [.own 8 1 ([(0 : Int), 1, 0].map nE), .gsl 7 (pl kC).length 0 (pl kC).length 1, .t (.int .i64 2), .mp 3]), (5, .fobs (kC.map Pl.cs)), (7, .gro (pl kC).length (gE (pE 5) (pl kC))), (8, .arr [(0 : Int), 1, 0].length)] (by repeat' (first | exact (rfl : stoBd _ [] = true) | refine stoBd_cons (Nat.le_of_ble_eq_true rfl) ?_ ?_ | exact (by first | rfl | (refine open_bd ?_ _ _; exact Nat.le_of_ble_eq_true rfl) | exact pls_bd _ _ | (refine gE_bd ?_ _; exact Nat.le_of_ble_eq_true rfl))))
  have hs := same_ok H [mkI 7, mkT [98]] [mkI 7, mkT [98]] (by decide) (by decide) (by intro x hx; simp at hx; rcases hx with rfl | rfl; exact mkI_k _; exact mkT_k _ (by decide)) (by intro x hx; simp at hx; rcases hx with rfl | rfl; exact mkI_k _; exact mkT_k _ (by decide))
  rw [show sameL [mkI 7, mkT [98]] [mkI 7, mkT [98]] = true by simp [sameL, sameV_refl]] at hs
  refine FnOk.run H.i10 H.mixed rfl rfl ?_
  refine fR rfl ?_
  refine Mid.callR [] (new_ok H 2 (by decide) (by decide)) rfl rfl rfl rfl (by repeat' (first | exact (rfl : stoBd _ [] = true) | refine stoBd_cons (Nat.le_of_ble_eq_true rfl) ?_ ?_ | exact (by first | rfl | (refine open_bd ?_ _ _; exact Nat.le_of_ble_eq_true rfl) | exact pls_bd _ _ | (refine gE_bd ?_ _; exact Nat.le_of_ble_eq_true rfl)))) (by repeat' (first | exact trivial | refine And.intro ?_ ?_ | exact rfl | exact (congrArg some (ren_pls _ _)).symm | exact (congrArg some (ren_open rfl _ _ _)).symm | exact (congrArg some (AObj.ren_gE (fun _ => rfl) _ _)).symm)) rfl (v' := .tup [.ptr 1 0, .t (.int .i64 0)]) rfl (ob' := [(0, .map false [] (some (0, []))), (1, .cells [.t (.int .i64 2), .mp 0, .t (.int .i64 0), .t (.int .i64 0)])]) (by repeat' (first | exact (rfl : renOb _ [] = []) | refine renOb_cons rfl ?_ ?_ | exact rfl | exact ren_pls _ _ | exact ren_open rfl _ _ _ | exact AObj.ren_gE (fun _ => rfl) _ _)) rfl rfl ?_
  refine fM rfl ?_
  refine Mid.call (mkI_ok H 7) rfl rfl rfl rfl ?_
  skip
  refine Mid.call (mkT_ok H [98]) rfl rfl rfl rfl ?_
  refine fM rfl ?_
  refine Run.condF rfl rfl rfl ?_
  refine fR rfl ?_
  refine Mid.callR [0, 1] (add_first H 2 0 0 0 (by decide) (mkI 7) (mkI_k 7) _) rfl rfl rfl rfl (by repeat' (first | exact (rfl : stoBd _ [] = true) | refine stoBd_cons (Nat.le_of_ble_eq_true rfl) ?_ ?_ | exact (by first | rfl | (refine open_bd ?_ _ _; exact Nat.le_of_ble_eq_true rfl) | exact pls_bd _ _ | (refine gE_bd ?_ _; exact Nat.le_of_ble_eq_true rfl)))) (by repeat' (first | exact trivial | refine And.intro ?_ ?_ | exact rfl | exact (congrArg some (ren_pls _ _)).symm | exact (congrArg some (ren_open rfl _ _ _)).symm | exact (congrArg some (AObj.ren_gE (fun _ => rfl) _ _)).symm)) rfl (v' := .tup [.t (.int .i64 0), .t (.int .i64 0)]) rfl (ob' := [(0, .map false [([.int .i64 0], .ptr 6 0)] none), (5, .map false [] none), (6, .cells [.own 10 1 ([(0 : Int)].map nE), .gsl 9 (pl kA).length 0 (pl kA).length 1, .t (.int .i64 0), .mp 5]), (7, .fobs (kA.map Pl.cs)), (9, .gro (pl kA).length (gE (pE 7) (pl kA))), (10, .arr [(0 : Int)].length)]) (by repeat' (first | exact (rfl : renOb _ [] = []) | refine renOb_cons rfl ?_ ?_ | exact rfl | exact ren_pls _ _ | exact ren_open rfl _ _ _ | exact AObj.ren_gE (fun _ => rfl) _ _)) rfl rfl ?_
  refine fM rfl ?_
  refine Mid.callR [0, 1, 4, 5, 6, 7, 8, 9, 10] (h2) rfl rfl rfl rfl (by repeat' (first | exact (rfl : stoBd _ [] = true) | refine stoBd_cons (Nat.le_of_ble_eq_true rfl) ?_ ?_ | exact (by first | rfl | (refine open_bd ?_ _ _; exact Nat.le_of_ble_eq_true rfl) | exact pls_bd _ _ | (refine gE_bd ?_ _; exact Nat.le_of_ble_eq_true rfl)))) (by repeat' (first | exact trivial | refine And.intro ?_ ?_ | exact rfl | exact (congrArg some (ren_pls _ _)).symm | exact (congrArg some (ren_open rfl _ _ _)).symm | exact (congrArg some (AObj.ren_gE (fun _ => rfl) _ _)).symm)) rfl (v' := .tup [.t (.int .i64 1), .t (.int .i64 0)]) rfl (ob' := [(1, .cells [.t (.int .i64 2), .mp 0, .t (.int .i64 0), .t (.int .i64 0)]), (6, .cells [.own 10 1 ([(0 : Int), 1].map nE), .gsl 9 (pl kB).length 0 (pl kB).length 1, .t (.int .i64 0), .mp 5]), (7, .fobs (kB.map Pl.cs)), (9, .gro (pl kB).length (gE (pE 7) (pl kB))), (10, .arr [(0 : Int), 1].length)]) (by repeat' (first | exact (rfl : renOb _ [] = []) | refine renOb_cons rfl ?_ ?_ | exact rfl | exact ren_pls _ _ | exact ren_open rfl _ _ _ | exact AObj.ren_gE (fun _ => rfl) _ _)) rfl rfl ?_
  refine fM rfl ?_
  refine Mid.callR [0, 1, 4, 5, 6, 7, 8, 9, 10] (h3) rfl rfl rfl rfl (by repeat' (first | exact (rfl : stoBd _ [] = true) | refine stoBd_cons (Nat.le_of_ble_eq_true rfl) ?_ ?_ | exact (by first | rfl | (refine open_bd ?_ _ _; exact Nat.le_of_ble_eq_true rfl) | exact pls_bd _ _ | (refine gE_bd ?_ _; exact Nat.le_of_ble_eq_true rfl)))) (by repeat' (first | exact trivial | refine And.intro ?_ ?_ | exact rfl | exact (congrArg some (ren_pls _ _)).symm | exact (congrArg some (ren_open rfl _ _ _)).symm | exact (congrArg some (AObj.ren_gE (fun _ => rfl) _ _)).symm)) rfl (v' := .tup [.t (.int .i64 2), .t (.int .i64 0)]) rfl (ob' := [(1, .cells [.t (.int .i64 2), .mp 0, .t (.int .i64 0), .t (.int .i64 1)]), (6, .cells [.own 10 1 ([(0 : Int), 1, 0].map nE), .gsl 9 (pl kB).length 0 (pl kB).length 1, .t (.int .i64 0), .mp 5]), (7, .fobs (kB.map Pl.cs)), (9, .gro (pl kB).length (gE (pE 7) (pl kB))), (10, .arr [(0 : Int), 1, 0].length)]) (by repeat' (first | exact (rfl : renOb _ [] = []) | refine renOb_cons rfl ?_ ?_ | exact rfl | exact ren_pls _ _ | exact ren_open rfl _ _ _ | exact AObj.ren_gE (fun _ => rfl) _ _)) rfl rfl ?_
  refine fM rfl ?_
  refine Mid.callR [0, 1, 4, 5, 6, 7, 8, 9, 10] (h4) rfl rfl rfl rfl (by repeat' (first | exact (rfl : stoBd _ [] = true) | refine stoBd_cons (Nat.le_of_ble_eq_true rfl) ?_ ?_ | exact (by first | rfl | (refine open_bd ?_ _ _; exact Nat.le_of_ble_eq_true rfl) | exact pls_bd _ _ | (refine gE_bd ?_ _; exact Nat.le_of_ble_eq_true rfl)))) (by repeat' (first | exact trivial | refine And.intro ?_ ?_ | exact rfl | exact (congrArg some (ren_pls _ _)).symm | exact (congrArg some (ren_open rfl _ _ _)).symm | exact (congrArg some (AObj.ren_gE (fun _ => rfl) _ _)).symm)) rfl (v' := .tup [.t (.lst ([mkI 7, mkT [98]].map Val.enc)), .t (.bool true)]) rfl (ob' := [(1, .cells [.t (.int .i64 2), .mp 0, .t (.int .i64 1), .t (.int .i64 1)]), (5, .map false (openE 7 0 2) none), (6, .cells [.own 10 1 ([(0 : Int), 1, 0].map nE), .gsl 9 (pl kB).length 0 (pl kB).length 1, .t (.int .i64 2), .mp 5])]) (by repeat' (first | exact (rfl : renOb _ [] = []) | refine renOb_cons rfl ?_ ?_ | exact rfl | exact ren_pls _ _ | exact ren_open rfl _ _ _ | exact AObj.ren_gE (fun _ => rfl) _ _)) rfl rfl ?_
  refine fM rfl ?_
  refine Mid.call (mkI_ok H 1) rfl rfl rfl rfl ?_
  skip
  refine Mid.call (mkI_ok H 2) rfl rfl rfl rfl ?_
  refine fM rfl ?_
  refine Mid.callR [0, 1, 4, 5, 6, 7, 8, 9, 10] (h5) rfl rfl rfl rfl (by repeat' (first | exact (rfl : stoBd _ [] = true) | refine stoBd_cons (Nat.le_of_ble_eq_true rfl) ?_ ?_ | exact (by first | rfl | (refine open_bd ?_ _ _; exact Nat.le_of_ble_eq_true rfl) | exact pls_bd _ _ | (refine gE_bd ?_ _; exact Nat.le_of_ble_eq_true rfl)))) (by repeat' (first | exact trivial | refine And.intro ?_ ?_ | exact rfl | exact (congrArg some (ren_pls _ _)).symm | exact (congrArg some (ren_open rfl _ _ _)).symm | exact (congrArg some (AObj.ren_gE (fun _ => rfl) _ _)).symm)) rfl (v' := .t (.int .i64 0)) rfl (ob' := [(5, .map false [] none), (6, .cells [.own 10 1 ([(0 : Int), 1, 0].map nE), .gsl 9 (pl kC).length 0 (pl kC).length 1, .t (.int .i64 2), .mp 5]), (7, .fobs (kC.map Pl.cs)), (9, .gro (pl kC).length (gE (pE 7) (pl kC)))]) (by repeat' (first | exact (rfl : renOb _ [] = []) | refine renOb_cons rfl ?_ ?_ | exact rfl | exact ren_pls _ _ | exact ren_open rfl _ _ _ | exact AObj.ren_gE (fun _ => rfl) _ _)) rfl rfl ?_
  refine fM rfl ?_
  refine Mid.callR [0, 1, 4, 5, 6, 7, 8, 9, 10] (h6) rfl rfl rfl rfl (by repeat' (first | exact (rfl : stoBd _ [] = true) | refine stoBd_cons (Nat.le_of_ble_eq_true rfl) ?_ ?_ | exact (by first | rfl | (refine open_bd ?_ _ _; exact Nat.le_of_ble_eq_true rfl) | exact pls_bd _ _ | (refine gE_bd ?_ _; exact Nat.le_of_ble_eq_true rfl)))) (by repeat' (first | exact trivial | refine And.intro ?_ ?_ | exact rfl | exact (congrArg some (ren_pls _ _)).symm | exact (congrArg some (ren_open rfl _ _ _)).symm | exact (congrArg some (AObj.ren_gE (fun _ => rfl) _ _)).symm)) rfl (v' := .tup [(mkI 1).v, .t (.bool true)]) rfl (ob' := []) (by repeat' (first | exact (rfl : renOb _ [] = []) | refine renOb_cons rfl ?_ ?_ | exact rfl | exact ren_pls _ _ | exact ren_open rfl _ _ _ | exact AObj.ren_gE (fun _ => rfl) _ _)) rfl rfl ?_
  refine fM rfl ?_
  refine Mid.ungd rfl rfl rfl ?_
  refine fM rfl ?_
  refine caG rfl rfl (fun hg => ⟨_, rfl, hs, rfl⟩) rfl rfl ?_
  refine fM rfl ?_
  refine Mid.ungd rfl rfl rfl ?_
  refine Mid.callR [0, 1, 4, 5, 6, 7, 8, 9, 10] (h7) rfl rfl rfl rfl (by repeat' (first | exact (rfl : stoBd _ [] = true) | refine stoBd_cons (Nat.le_of_ble_eq_true rfl) ?_ ?_ | exact (by first | rfl | (refine open_bd ?_ _ _; exact Nat.le_of_ble_eq_true rfl) | exact pls_bd _ _ | (refine gE_bd ?_ _; exact Nat.le_of_ble_eq_true rfl)))) (by repeat' (first | exact trivial | refine And.intro ?_ ?_ | exact rfl | exact (congrArg some (ren_pls _ _)).symm | exact (congrArg some (ren_open rfl _ _ _)).symm | exact (congrArg some (AObj.ren_gE (fun _ => rfl) _ _)).symm)) rfl (v' := .t (.int .i64 1)) rfl (ob' := []) (by repeat' (first | exact (rfl : renOb _ [] = []) | refine renOb_cons rfl ?_ ?_ | exact rfl | exact ren_pls _ _ | exact ren_open rfl _ _ _ | exact AObj.ren_gE (fun _ => rfl) _ _)) rfl rfl ?_
  refine fM rfl ?_
  refine Mid.ungd rfl rfl rfl ?_
  refine Mid.callR [0, 1, 4, 5, 6, 7, 8, 9, 10] (h8) rfl rfl rfl rfl (by repeat' (first | exact (rfl : stoBd _ [] = true) | refine stoBd_cons (Nat.le_of_ble_eq_true rfl) ?_ ?_ | exact (by first | rfl | (refine open_bd ?_ _ _; exact Nat.le_of_ble_eq_true rfl) | exact pls_bd _ _ | (refine gE_bd ?_ _; exact Nat.le_of_ble_eq_true rfl)))) (by repeat' (first | exact trivial | refine And.intro ?_ ?_ | exact rfl | exact (congrArg some (ren_pls _ _)).symm | exact (congrArg some (ren_open rfl _ _ _)).symm | exact (congrArg some (AObj.ren_gE (fun _ => rfl) _ _)).symm)) rfl (v' := .t (.int .i64 1)) rfl (ob' := []) (by repeat' (first | exact (rfl : renOb _ [] = []) | refine renOb_cons rfl ?_ ?_ | exact rfl | exact ren_pls _ _ | exact ren_open rfl _ _ _ | exact AObj.ren_gE (fun _ => rfl) _ _)) rfl rfl ?_
  refine fM rfl ?_
  refine Run.fin rfl (EndOk.go ?_); exact .t rfl
end Go.GB.C35


/-
  L35O: chapter 35: the laws' own functions; fetches that have no queue.
-/
namespace Go.GB.C35
open Go.GB
set_option linter.unusedSimpArgs false
set_option linter.unusedVariables false
set_option maxRecDepth 100000
set_option maxHeartbeats 8000000
variable {P : Program}
/-- the first value that is the same -/
def idx (l : List Val) (v : Val) : Option Nat := l.findIdx? fun d => sameV d v
end Go.GB.C35


/-
  GbZQ: loads out of growing arrays under a guard.
-/
namespace Go.GB
section
variable {P : Program} {n m : Nat} {R : St → Prop} {draw : Bool} {all : List AO} {after : List (List Nat)} {live : List Nat} {k : List It} {b b' : Nat} {fl : List (Bool × Bool)} {ops : List AO} {st st' : St} {d : Option Nat}
theorem looksV_gptG {gc : Bool} {x : Ar} {q ver o : Nat} {p : List Bool} (h : rd gc st x = (.gpt q ver o, p)) : looksV (x.v st) = true := by
  unfold rd at h
  generalize x.v st = v at h
  cases v <;> simp [V.un] at h <;> first | (obtain ⟨rfl, _⟩ := h; rfl) | (obtain ⟨⟨rfl, rfl, rfl⟩, _⟩ := h; rfl)
/-- a load of one cell of an element, under a guard -/
theorem Mid.ldGg {α : Type} {f : α → List V} {l : List α} {e : α} {c : V} (i j : Nat) {sz nn s : Nat} {want gc : Bool} {x : Ar} {q ver o : Nat} {p1 : List Bool} (hg : gcondF want (look st.env s) = some gc) (hx : rd gc st x = (.gpt q ver o, p1)) (hq : aget st.s.sto q = some (.gro ver (gE f l))) (hv : 0 < ver) (ho : o = i * sz + j) (hsz : ∀ x, (f x).length = sz) (he : l[i]? = some e) (hc : (f e)[j]? = some c)
    (hp1 : pall (p1.map fun p => !gc || p)) (hs : stepV st d (.gd gc c) some = some st')
    (h' : Mid P n m R draw all after live k b ((true, false) :: fl) ops st') : Mid P n m R draw all after live k b fl (⟨d, some (s, want), .ld false nn x⟩ :: ops) st := by
  have hj : j < sz := by rw [← hsz e]; exact (List.getElem?_eq_some_iff.1 hc).1
  refine Mid.valLG (v := c) (ps := p1 ++ [true, true]) hg ?_ (looksV_gptG hx) (by simp only [List.map_append, pall_app]; exact ⟨hp1, by simp [pall]⟩) hs h'
  simp only [evalE, hx, hq]
  rw [ho, gE_at hsz l i j e he hj, hc]
  simp [hv]
/-- a load of some cells of an element, under a guard -/
theorem Mid.ldGAg {α : Type} {f : α → List V} {l : List α} {e : α} {cs : List V} (i j : Nat) {sz nn s : Nat} {want gc : Bool} {x : Ar} {q ver o : Nat} {p1 : List Bool} (hg : gcondF want (look st.env s) = some gc) (hx : rd gc st x = (.gpt q ver o, p1)) (hq : aget st.s.sto q = some (.gro ver (gE f l))) (hv : 0 < ver) (ho : o = i * sz + j) (hsz : ∀ x, (f x).length = sz) (he : l[i]? = some e) (hj : j + nn ≤ sz) (hc : ((f e).drop j).take nn = cs)
    (hp1 : pall (p1.map fun p => !gc || p)) (hs : stepV st d (.gd gc (.agg cs)) some = some st')
    (h' : Mid P n m R draw all after live k b ((true, false) :: fl) ops st') : Mid P n m R draw all after live k b fl (⟨d, some (s, want), .ld true nn x⟩ :: ops) st := by
  refine Mid.valLG (v := .agg cs) (ps := p1 ++ [true, true]) hg ?_ (looksV_gptG hx) (by simp only [List.map_append, pall_app]; exact ⟨hp1, by simp [pall]⟩) hs h'
  have hi : i < l.length := (List.getElem?_eq_some_iff.1 he).1
  have hle : o + nn ≤ (gE f l).length := by
    rw [gE_length hsz, ho]
    have : (i + 1) * sz ≤ l.length * sz := Nat.mul_le_mul_right _ hi
    rw [Nat.add_mul] at this; omega
  simp only [evalE, hx, hq, if_true]
  rw [if_pos hle, ho, gE_drop hsz l i j nn e he hj, hc]
  simp [hv]
end
/-- an object that is changed no more -/
theorem LeZ.ptrZ {s : S} {m m' k off : Nat} {cs : List V} {ts : List T} (hk : m ≤ k) (hs : aget s.sto k = some (.cells cs)) (hts : (cs.drop off).mapM V.cell1 = some ts) : LeZ s m m' (.ptr k off) (.t (.ptr ts)) := by
  intro Λ v hm hr hv
  cases hv with
  | @ptr b _ _ hkn hlab =>
    obtain ⟨_, b', arr, e, h1, h2, h3, h4⟩ := hr.sto k _ hs
    obtain rfl := hr.inj b b' k hlab h1
    obtain ⟨k1, k2⟩ := mapM_cell1 _ ts hts
    have hlab' : (Λ.cut m m').lab b = .fix none := by simp [L.cut, hlab]; omega
    have hat : ∀ (j : Nat) (x : T), ts[j]? = some x → ∃ c, cs[off + j]? = some c ∧ c.cell1 = some x ∧ off + j < arr.size := fun j x hj => by
      have hjl : j < ts.length := (List.getElem?_eq_some_iff.1 hj).1
      rw [← k1, List.length_drop] at hjl
      have hc : (cs.drop off)[j]? = some (cs[off + j]'(by omega)) := by
        rw [List.getElem?_drop, List.getElem?_eq_getElem (by omega)]
      exact ⟨cs[off + j]'(by omega), List.getElem?_eq_getElem (by omega), k2 j _ x hc hj, by omega⟩
    refine .t (.ptr ts b off (fun j => arr.getD (off + j) undef) (fun j x _ => by simp [Rd, hlab']) (fun j x hj => ?_) (fun j x hj => ?_))
    · obtain ⟨c, _, _, hl⟩ := hat j x hj
      show Λ.w.cell? _ = _
      simp [World.cell?, h2, hl]
    · obtain ⟨c, hc, hc1, hl⟩ := hat j x hj
      have hv : arr[off + j]? = some (arr.getD (off + j) undef) := by simp [hl]
      exact ((h4 (off + j) _ c hv hc).cell1 hc1).cut
/-- objects named once more -/
theorem FnOk.sameOb {P : Program} {f : FuncId} {vs : List V} {s : S} {x : V} {r r' : Bool} {ob : List (Nat × AObj)} (h : FnOk P f vs s { v := x, rd := r }) (he : asets s.sto ob = s.sto) : FnOk P f vs s { v := x, ob := ob, rd := r' } := by
  refine ⟨h.1, fun Λ args h1 h2 h3 h4 => (h.2 Λ args h1 h2 h3 h4).mono fun e w' hp => ?_⟩
  obtain ⟨v, Λ', a1, a2, a3, a4, a5, a6⟩ := hp
  refine ⟨v, Λ', a1, a2, a3, a4, ?_, a6⟩
  show RelS Λ' ⟨asets s.sto ob, 0⟩
  rw [he]; exact a5
end Go.GB


/-
  L37A: chapter 35: the reference's loader: its state, the open batch, counts.
-/
namespace Go.GB.C35
open Go.GB
set_option linter.unusedSimpArgs false
set_option linter.unusedVariables false
set_option maxRecDepth 100000
set_option maxHeartbeats 16000000
variable {P : Program}
/-- a place of the reference -/
structure RP where
  f : Int
  rep : Val
  res : Val
  st : Int
def RP.enc (p : RP) : List T := [.int .i64 p.f, .int .i64 p.rep.kind, .int .i64 p.rep.int, .str p.rep.text, .lst (p.rep.items.map Val.enc), .lst (p.rep.keys.map sE), .int .i64 p.res.kind, .int .i64 p.res.int, .str p.res.text, .lst (p.res.items.map Val.enc), .lst (p.res.keys.map sE), .int .i64 p.st]
structure RP.Ok (p : RP) : Prop where
  r : p.rep.Ok
  s : p.res.Ok
structure RS where
  m : Int
  pl : List RP
  tk : List (Int × Nat)
  c : Int
  s : Int
def tE (t : Int × Nat) : List T := [.int .i64 t.1, .int .i64 (t.2 : Int)]
def nN (x : Nat) : List T := [.int .i64 (x : Int)]
/-- the places of a fetch's open batch -/
def bIx (f : Int) : Nat → List RP → List Nat
  | _, [] => []
  | i, p :: r => if p.f = f ∧ p.st = 1 then i :: bIx f (i + 1) r else bIx f (i + 1) r
theorem rcalls_ok (H : Pr P) (m c s : Int) (pl : List RP) (tk : List (Int × Nat)) : FnOk P 13 [.ptr 0 0] ⟨[(0, .cells [.t (.int .i64 m), .gsl 1 pl.length 0 pl.length 12, .own 2 2 (tk.map tE), .t (.int .i64 c), .t (.int .i64 s)]), (1, .gro pl.length (gE (gT RP.enc) pl)), (2, .arr tk.length)], 3⟩ { v := .t (.int .i64 c), rd := true } := by
  have hb : stoBd 3 [(0, .cells [.t (.int .i64 m), .gsl 1 pl.length 0 pl.length 12, .own 2 2 (tk.map tE), .t (.int .i64 c), .t (.int .i64 s)]), (1, .gro pl.length (gE (gT RP.enc) pl)), (2, .arr tk.length)] = true := (by repeat' (first | exact (rfl : stoBd _ [] = true) | refine stoBd_cons (Nat.le_of_ble_eq_true rfl) ?_ ?_ | exact (by first | rfl | exact V.bds_gE (gT_bds RP.enc _) _)))
  refine FnOk.run H.i13 H.mixed rfl rfl ?_
  refine fR rfl ?_
  refine Run.condF rfl rfl rfl ?_
  refine fR rfl ?_
  refine Run.fin rfl (EndOk.sameX rfl rfl rfl hb (.t rfl))
theorem rsaved_ok (H : Pr P) (m c s : Int) (pl : List RP) (tk : List (Int × Nat)) : FnOk P 15 [.ptr 0 0] ⟨[(0, .cells [.t (.int .i64 m), .gsl 1 pl.length 0 pl.length 12, .own 2 2 (tk.map tE), .t (.int .i64 c), .t (.int .i64 s)]), (1, .gro pl.length (gE (gT RP.enc) pl)), (2, .arr tk.length)], 3⟩ { v := .t (.int .i64 s), rd := true } := by
  have hb : stoBd 3 [(0, .cells [.t (.int .i64 m), .gsl 1 pl.length 0 pl.length 12, .own 2 2 (tk.map tE), .t (.int .i64 c), .t (.int .i64 s)]), (1, .gro pl.length (gE (gT RP.enc) pl)), (2, .arr tk.length)] = true := (by repeat' (first | exact (rfl : stoBd _ [] = true) | refine stoBd_cons (Nat.le_of_ble_eq_true rfl) ?_ ?_ | exact (by first | rfl | exact V.bds_gE (gT_bds RP.enc _) _)))
  refine FnOk.run H.i15 H.mixed rfl rfl ?_
  refine fR rfl ?_
  refine Run.condF rfl rfl rfl ?_
  refine fR rfl ?_
  refine Run.fin rfl (EndOk.sameX rfl rfl rfl hb (.t rfl))
theorem batch_ok (H : Pr P) (m c s f : Int) (pl : List RP) (tk : List (Int × Nat)) (hpl : pl.length < 1000000) : FnOk P 37 [.ptr 0 0, .t (.int .i64 f)] ⟨[(0, .cells [.t (.int .i64 m), .gsl 1 pl.length 0 pl.length 12, .own 2 2 (tk.map tE), .t (.int .i64 c), .t (.int .i64 s)]), (1, .gro pl.length (gE (gT RP.enc) pl)), (2, .arr tk.length)], 3⟩ { v := .t (.lst ((bIx f 0 pl).map nN)), rd := true } := by
  have hb : stoBd 3 [(0, .cells [.t (.int .i64 m), .gsl 1 pl.length 0 pl.length 12, .own 2 2 (tk.map tE), .t (.int .i64 c), .t (.int .i64 s)]), (1, .gro pl.length (gE (gT RP.enc) pl)), (2, .arr tk.length)] = true := (by repeat' (first | exact (rfl : stoBd _ [] = true) | refine stoBd_cons (Nat.le_of_ble_eq_true rfl) ?_ ?_ | exact (by first | rfl | exact V.bds_gE (gT_bds RP.enc _) _)))
  refine FnOk.run H.i37 H.mixed rfl rfl ?_
  refine fR rfl ?_
  refine rList pl (fun i (B : List Nat) => { env := [(0, .ptr 0 0), (1, .t (.int .i64 f)), (5, .own 3 1 (B.map nN)), (6, .t (.int .i64 i))], s := ⟨[(0, .cells [.t (.int .i64 m), .gsl 1 pl.length 0 pl.length 12, .own 2 2 (tk.map tE), .t (.int .i64 c), .t (.int .i64 s)]), (1, .gro pl.length (gE (gT RP.enc) pl)), (2, .arr tk.length), (3, .arr B.length)], 4⟩ }) (fun r i B => B.length ≤ i ∧ B ++ bIx f i r = bIx f 0 pl) 3 [] rfl ⟨Nat.le_refl _, rfl⟩ rfl rfl rfl ?_ ?_ (hs := (by repeat' (first | exact trivial | refine And.intro ?_ ?_ | exact Or.inr ⟨Nat.le_of_ble_eq_true rfl, Nat.le_of_ble_eq_true rfl, rfl⟩ | exact Or.inl ⟨(Nat.le_of_ble_eq_true rfl), _, rfl, AObj.leSame (by first | rfl | exact V.bds_gE (gT_bds RP.enc _) _)⟩ | exact Or.inl ⟨(Nat.le_of_ble_eq_true rfl), _, rfl, LeO.arr (by simp)⟩)))
  · rintro B ⟨_, hB⟩
    simp only [bIx, List.append_nil] at hB
    refine fR rfl ?_
    refine pu rfl ?_
    refine fM rfl ?_
    refine Run.condF rfl rfl (by simp) ?_
    refine fR rfl ?_
    refine Run.fin rfl (EndOk.sameX rfl rfl rfl hb (.own (by rw [hB])))
  · rintro i p r B h1 hi hd ⟨hl, hB⟩ ih
    have hl : B.length ≤ i := hl
    have hpos : 0 < pl.length := by omega
    simp only [bIx] at hB
    refine fR rfl ?_
    refine pu rfl ?_
    refine fM rfl ?_
    refine Run.condT rfl rfl (by simp; omega) ?_
    refine fR rfl ?_
    refine pu rfl ?_
    refine pu rfl ?_
    refine Mid.ldG (i) 0 (sz := 12) rfl rfl (by omega) (by omega) (gT_length (fun _ => rfl)) (h1) rfl rfl ?_
    refine fM rfl ?_
    refine gr rfl ?_
    refine gr rfl ?_
    refine Mid.ldGg (i) 11 (sz := 12) rfl rfl rfl (by omega) (by omega) (gT_length (fun _ => rfl)) (h1) rfl (by (repeat' (first | exact trivial | exact Bool.not_or_self _ | exact grd1 _ | exact grd2 _ | exact grd3 _ _ | exact grd4 _ _ | refine And.intro ?_ ?_ | exact rfl | (simp; done) | (simp <;> omega))); done) rfl ?_
    refine fM rfl ?_
    by_cases h : p.f = f ∧ p.st = 1
    · rw [if_pos h] at hB
      refine Run.condT rfl rfl (by simp [h.1, h.2]) ?_
      refine fR rfl ?_
      refine apM nN B [i] rfl rfl rfl rfl rfl ?_ (h1 := by first | omega | (simp; omega) | (simp; done)) (h2 := by first | omega | (simp; omega) | (simp; done))
      refine fM rfl ?_
      refine aL rfl rfl rfl rfl rfl ?_
      refine fM rfl ?_
      exact rWeak 4 rfl (ih (B ++ [i]) ⟨by simp; omega, by rw [← hB]; simp⟩) rfl rfl rfl (hs := (by repeat' (first | exact trivial | refine And.intro ?_ ?_ | exact Or.inr ⟨Nat.le_of_ble_eq_true rfl, Nat.le_of_ble_eq_true rfl, rfl⟩ | exact Or.inl ⟨(Nat.le_of_ble_eq_true rfl), _, rfl, AObj.leSame (by first | rfl | exact V.bds_gE (gT_bds RP.enc _) _)⟩ | exact Or.inl ⟨(Nat.le_of_ble_eq_true rfl), _, rfl, LeO.arr (by simp)⟩)))
    · rw [if_neg h] at hB
      refine Run.condF rfl rfl (by simpa using h) ?_
      refine fR rfl ?_
      refine aL rfl rfl rfl rfl rfl ?_
      refine fM rfl ?_
      exact rWeak 4 rfl (ih B ⟨by omega, hB⟩) rfl rfl rfl (hs := (by repeat' (first | exact trivial | refine And.intro ?_ ?_ | exact Or.inr ⟨Nat.le_of_ble_eq_true rfl, Nat.le_of_ble_eq_true rfl, rfl⟩ | exact Or.inl ⟨(Nat.le_of_ble_eq_true rfl), _, rfl, AObj.leSame (by first | rfl | exact V.bds_gE (gT_bds RP.enc _) _)⟩ | exact Or.inl ⟨(Nat.le_of_ble_eq_true rfl), _, rfl, LeO.arr (by simp)⟩)))
end Go.GB.C35


/-
  L37B: chapter 35: the reference's results of tickets; a new loader of the reference.
-/
namespace Go.GB.C35
open Go.GB
set_option linter.unusedSimpArgs false
set_option linter.unusedVariables false
set_option maxRecDepth 100000
set_option maxHeartbeats 16000000
variable {P : Program}
/-- the place of a fetch's n-th ticket -/
def nth (f : Int) : List (Int × Nat) → Int → Option Nat
  | [], _ => none
  | t :: r, n => if t.1 = f then (if n = 0 then some t.2 else nth f r (n - 1)) else nth f r n
def rtk (pl : List RP) (tk : List (Int × Nat)) (f n : Int) : Val × Bool :=
  match nth f tk n with
  | some a => match pl[a]? with
    | some p => (p.res, decide (p.st = 2))
    | none => (Val.zero, false)
  | none => (Val.zero, false)
theorem rtake_ok (H : Pr P) (m c s f n : Int) (pl : List RP) (tk : List (Int × Nat)) (hpl : pl.length < 1000000) (hpo : ∀ p, p ∈ pl → p.Ok) (htl : tk.length < 1000000) (htk : ∀ t, t ∈ tk → t.2 < pl.length) : FnOk P 30 [.ptr 0 0, .t (.int .i64 f), .t (.int .i64 n)] ⟨[(0, .cells [.t (.int .i64 m), .gsl 1 pl.length 0 pl.length 12, .own 2 2 (tk.map tE), .t (.int .i64 c), .t (.int .i64 s)]), (1, .gro pl.length (gE (gT RP.enc) pl)), (2, .arr tk.length)], 3⟩ { v := .tup [(rtk pl tk f n).1.v, .t (.bool (rtk pl tk f n).2)], rd := true } := by
  have hb : stoBd 3 [(0, .cells [.t (.int .i64 m), .gsl 1 pl.length 0 pl.length 12, .own 2 2 (tk.map tE), .t (.int .i64 c), .t (.int .i64 s)]), (1, .gro pl.length (gE (gT RP.enc) pl)), (2, .arr tk.length)] = true := (by repeat' (first | exact (rfl : stoBd _ [] = true) | refine stoBd_cons (Nat.le_of_ble_eq_true rfl) ?_ ?_ | exact (by first | rfl | exact V.bds_gE (gT_bds RP.enc _) _)))
  refine FnOk.run H.i30 H.mixed rfl rfl ?_
  refine fR rfl ?_
  refine Run.condF rfl rfl rfl ?_
  refine fR rfl ?_
  refine rList tk (fun i (k : Nat) => { env := [(0, .ptr 0 0), (1, .t (.int .i64 f)), (2, .t (.int .i64 n)), (6, .ptr 3 0), (8, .t (.int .i64 k)), (9, .t (.int .i64 i))], s := ⟨[(0, .cells [.t (.int .i64 m), .gsl 1 pl.length 0 pl.length 12, .own 2 2 (tk.map tE), .t (.int .i64 c), .t (.int .i64 s)]), (1, .gro pl.length (gE (gT RP.enc) pl)), (2, .arr tk.length), (3, .cells [.t (.int .i64 0), .t (.int .i64 0), .t (.str []), .nils, .nils])], 4⟩ }) (fun r i k => k ≤ i ∧ nth f tk n = nth f r (n - k)) 4 0 rfl ⟨Nat.le_refl _, by simp⟩ rfl rfl rfl ?_ ?_ (hs := (by repeat' (first | exact trivial | refine And.intro ?_ ?_ | exact Or.inr ⟨Nat.le_of_ble_eq_true rfl, Nat.le_of_ble_eq_true rfl, rfl⟩ | exact Or.inl ⟨(Nat.le_of_ble_eq_true rfl), _, rfl, AObj.leSame (by first | rfl | exact V.bds_gE (gT_bds RP.enc _) _)⟩ | exact Or.inl ⟨(Nat.le_of_ble_eq_true rfl), _, rfl, LeO.arr (by simp)⟩)))
  · rintro k ⟨_, hk⟩
    have e : rtk pl tk f n = (Val.zero, false) := by simp only [rtk, hk, nth]
    rw [e]
    refine fR rfl ?_
    refine lM rfl rfl rfl ?_
    refine fM rfl ?_
    refine Run.condF rfl rfl (by simp) ?_
    refine fR rfl ?_
    refine Run.fin rfl (EndOk.sameX rfl rfl rfl hb ?_)
    exact .tup (.cons zeroR (.cons (.t rfl) .nil))
  · rintro i t r k h1 hi hd ⟨hkl, hk⟩ ih
    have hkl : k ≤ i := hkl
    simp only [nth] at hk
    refine fR rfl ?_
    refine lM rfl rfl rfl ?_
    refine fM rfl ?_
    refine Run.condT rfl rfl (by simp; omega) ?_
    refine fR rfl ?_
    refine Mid.elemMap rfl rfl rfl h1 rfl rfl ?_
    refine fM rfl ?_
    by_cases hf : t.1 = f
    · rw [if_pos hf] at hk
      refine Run.condF rfl rfl (by simp [hf]) ?_
      refine fR rfl ?_
      by_cases hn : (k : Int) = n
      · rw [if_pos (by omega)] at hk
        have ha := htk t (List.mem_of_getElem? h1)
        obtain ⟨p, hp⟩ : ∃ p, pl[t.2]? = some p := ⟨_, List.getElem?_eq_getElem ha⟩
        have hpk := hpo p (List.mem_of_getElem? hp)
        have e : rtk pl tk f n = (p.res, decide (p.st = 2)) := by simp only [rtk, hk, hp]
        rw [e]
        have hpos : 0 < pl.length := by omega
        refine Run.condT rfl rfl (by simp [hn]) ?_
        refine fR rfl ?_
        refine Mid.elemMap rfl rfl rfl h1 rfl rfl ?_
        refine fM rfl ?_
        refine pu rfl ?_
        refine Mid.ldGA (t.2) 0 (sz := 12) rfl rfl (by omega) (by omega) (gT_length (fun _ => rfl)) (hp) (by decide) rfl rfl ?_
        refine fM rfl ?_
        refine Mid.call (rcopy_ok H p.res hpk.s) rfl rfl rfl rfl ?_
        refine fM rfl ?_
        refine Run.fin rfl (EndOk.sameX rfl rfl rfl hb ?_)
        exact .tup (.cons (.le (.same rfl)) (.cons (.t (by by_cases hh : p.st = 2 <;> simp [hh])) .nil))
      · rw [if_neg (by omega)] at hk
        refine Run.condF rfl rfl (by simp [hn]) ?_
        refine fR rfl ?_
        refine aL rfl rfl rfl rfl rfl ?_
        refine fM rfl ?_
        refine aL rfl rfl rfl rfl rfl ?_
        refine fM rfl ?_
        exact rWeak 4 rfl (ih (k + 1) ⟨by omega, by rw [hk]; congr 1; omega⟩) rfl rfl rfl (hs := (by repeat' (first | exact trivial | refine And.intro ?_ ?_ | exact Or.inr ⟨Nat.le_of_ble_eq_true rfl, Nat.le_of_ble_eq_true rfl, rfl⟩ | exact Or.inl ⟨(Nat.le_of_ble_eq_true rfl), _, rfl, AObj.leSame (by first | rfl | exact V.bds_gE (gT_bds RP.enc _) _)⟩ | exact Or.inl ⟨(Nat.le_of_ble_eq_true rfl), _, rfl, LeO.arr (by simp)⟩)))
    · rw [if_neg hf] at hk
      refine Run.condT rfl rfl (by simp [hf]) ?_
      refine fR rfl ?_
      refine aL rfl rfl rfl rfl rfl ?_
      refine fM rfl ?_
      exact rWeak 4 rfl (ih k ⟨by omega, hk⟩) rfl rfl rfl (hs := (by repeat' (first | exact trivial | refine And.intro ?_ ?_ | exact Or.inr ⟨Nat.le_of_ble_eq_true rfl, Nat.le_of_ble_eq_true rfl, rfl⟩ | exact Or.inl ⟨(Nat.le_of_ble_eq_true rfl), _, rfl, AObj.leSame (by first | rfl | exact V.bds_gE (gT_bds RP.enc _) _)⟩ | exact Or.inl ⟨(Nat.le_of_ble_eq_true rfl), _, rfl, LeO.arr (by simp)⟩)))
theorem rnew_ok (H : Pr P) (n : Int) (h1 : 1 ≤ n) (h2 : n ≤ 1024) : FnOk P 8 [.t (.int .i64 n)] ⟨[], 0⟩ { v := .tup [.ptr 0 0, .t (.int .i64 0)], ob := [(0, .cells [.t (.int .i64 n), .nils, .nils, .t (.int .i64 0), .t (.int .i64 0)])], n := 1 } := by
  refine FnOk.run H.i8 H.mixed rfl rfl ?_
  refine fR rfl ?_
  refine Run.condF rfl rfl (by simp; omega) ?_
  refine fR rfl ?_
  refine Run.fin rfl (EndOk.chg rfl rfl ?_ ?_)
  · exact .le (.same rfl)
  · exact (by repeat' (first | exact trivial | exact LeX.t | exact LeX.top | exact LeX.nilOwn (Nat.le_of_ble_eq_true rfl) (Nat.le_of_ble_eq_true rfl) | exact LeX.ownT | exact LeX.nilT | exact LeX.same rfl | exact LeX.tEq (by simp) | exact LeX.ownEq (by simp) (Nat.le_of_ble_eq_true rfl) | exact LeX.tEq (by congr 1 <;> omega) | exact Or.inr ⟨Nat.le_of_ble_eq_true rfl, Nat.le_of_ble_eq_true rfl, rfl⟩ | refine Or.inl ⟨Nat.le_of_ble_eq_true rfl, _, rfl, ?_⟩ | refine LeO.cells ?_ | exact LeO.arr rfl | exact LeO.arr (by simp) | exact LeO.mE (by first | rfl | simp) (by first | exact Or.inl rfl | exact Or.inr rfl) | exact LeO.cE (by first | rfl | simp) | exact LeXs.cE (by first | rfl | simp) | refine LeO.map (by first | rfl | simp) ?_ (by first | exact Or.inl rfl | exact Or.inr rfl) | exact LeO.iter (by first | rfl | simp) (Nat.le_of_ble_eq_true rfl) | refine LeXs.cons ?_ ?_ | exact LeXs.nil | refine And.intro ?_ ?_))
theorem rnew_bad (H : Pr P) (n : Int) (h : n < 1 ∨ 1024 < n) : FnOk P 8 [.t (.int .i64 n)] ⟨[], 0⟩ { v := .tup [.t .nilp, .t (.int .i64 2)] } := by
  refine FnOk.run H.i8 H.mixed rfl rfl ?_
  refine fR rfl ?_
  refine Run.condT rfl rfl (by simp; omega) ?_
  refine fR rfl ?_
  refine Run.fin rfl (EndOk.go ?_); exact .tup2 (.t rfl) (.t rfl)
theorem new_bad (H : Pr P) (n : Int) (h : n < 1 ∨ 1024 < n) : FnOk P 7 [.t (.int .i64 n)] ⟨[], 0⟩ { v := .tup [.t .nilp, .t (.int .i64 2)] } := by
  refine FnOk.run H.i7 H.mixed rfl rfl ?_
  refine fR rfl ?_
  refine Run.condT rfl rfl (by simp; omega) ?_
  refine fR rfl ?_
  refine Run.fin rfl (EndOk.go ?_); exact .tup2 (.t rfl) (.t rfl)
end Go.GB.C35


/-
  L37C: chapter 35: the reference's Add.
-/
namespace Go.GB.C35
open Go.GB
set_option linter.unusedSimpArgs false
set_option linter.unusedVariables false
set_option maxRecDepth 100000
set_option maxHeartbeats 16000000
variable {P : Program}
/-- how many tickets of a fetch there are -/
def cntT (f : Int) : List (Int × Nat) → Nat
  | [] => 0
  | t :: r => if t.1 = f then cntT f r + 1 else cntT f r
/-- the first place of a representation -/
def fm (f : Int) (v : Val) : Nat → List RP → Option Nat
  | _, [] => none
  | i, p :: r => if p.f = f ∧ sameV p.rep v = true then some i else fm f v (i + 1) r
theorem fm_lt {f : Int} {v : Val} : ∀ {pl : List RP} {i j : Nat}, fm f v i pl = some j → i ≤ j ∧ j < i + pl.length
  | [], i, j, h => by simp [fm] at h
  | p :: r, i, j, h => by
    simp only [fm] at h
    split at h
    · simp at h; subst h; simp
    · have := fm_lt h; simp; omega
theorem cntT_le (f : Int) : ∀ tk : List (Int × Nat), cntT f tk ≤ tk.length
  | [] => Nat.le_refl _
  | t :: r => by
    have := cntT_le f r
    simp only [cntT, List.length_cons]
    split <;> omega
def rAt (pl : List RP) (f : Int) (v : Val) : Nat := (fm f v 0 pl).getD pl.length
def rPl (pl : List RP) (f : Int) (v : Val) : List RP := if (fm f v 0 pl).isSome then pl else pl ++ [⟨f, v, Val.zero, 0⟩]
def rSv (pl : List RP) (f : Int) (v : Val) : Int := if (fm f v 0 pl).isSome then 1 else 0
theorem radd_neg (H : Pr P) (m c s f : Int) (pl : List RP) (tk : List (Int × Nat)) (hm : m ≠ 0) (hf : f < 0) (v : Val) (hv : v.Ok) : FnOk P 27 [.ptr 0 0, .t (.int .i64 f), v.v] ⟨[(0, .cells [.t (.int .i64 m), .gsl 1 pl.length 0 pl.length 12, .own 2 2 (tk.map tE), .t (.int .i64 c), .t (.int .i64 s)]), (1, .gro pl.length (gE (gT RP.enc) pl)), (2, .arr tk.length)], 3⟩ { v := .tup [.t (.int .i64 0), .t (.int .i64 2)], rd := true } := by
  have hb : stoBd 3 [(0, .cells [.t (.int .i64 m), .gsl 1 pl.length 0 pl.length 12, .own 2 2 (tk.map tE), .t (.int .i64 c), .t (.int .i64 s)]), (1, .gro pl.length (gE (gT RP.enc) pl)), (2, .arr tk.length)] = true := (by repeat' (first | exact (rfl : stoBd _ [] = true) | refine stoBd_cons (Nat.le_of_ble_eq_true rfl) ?_ ?_ | exact (by first | rfl | exact V.bds_gE (gT_bds RP.enc _) _)))
  refine FnOk.run H.i27 H.mixed rfl rfl ?_
  refine fR rfl ?_
  refine Run.condF rfl rfl (by simp [hm]) ?_
  refine fR rfl ?_
  refine Run.condT rfl rfl (by simp; omega) ?_
  refine fR rfl ?_
  refine Run.fin rfl (EndOk.sameX rfl rfl rfl hb ?_)
  exact .tup (.cons (.t rfl) (.cons (.t rfl) .nil))
theorem radd_ok (H : Pr P) (m c s f : Int) (pl : List RP) (tk : List (Int × Nat)) (hm : m ≠ 0) (hf : 0 ≤ f) (v : Val) (hv : v.Ok) (hs : 0 ≤ s ∧ s < 1000000) (hpl : pl.length < 1000000) (htl : tk.length < 1000000) (hpo : ∀ p, p ∈ pl → p.Ok) : FnOk P 27 [.ptr 0 0, .t (.int .i64 f), v.v] ⟨[(0, .cells [.t (.int .i64 m), .gsl 1 pl.length 0 pl.length 12, .own 2 2 (tk.map tE), .t (.int .i64 c), .t (.int .i64 s)]), (1, .gro pl.length (gE (gT RP.enc) pl)), (2, .arr tk.length)], 3⟩ { v := .tup [.t (.int .i64 (cntT f tk)), .t (.int .i64 0)], ob := [(0, .cells [.t (.int .i64 m), .gsl 1 (rPl pl f v).length 0 (rPl pl f v).length 12, .own 2 2 ((tk ++ [(f, rAt pl f v)]).map tE), .t (.int .i64 c), .t (.int .i64 (s + rSv pl f v))]), (1, .gro (rPl pl f v).length (gE (gT RP.enc) (rPl pl f v))), (2, .arr (tk ++ [(f, rAt pl f v)]).length)], rd := true } := by
  have hcl := cntT_le f tk
  refine FnOk.run H.i27 H.mixed rfl rfl ?_
  refine fR rfl ?_
  refine Run.condF rfl rfl (by simp [hm]) ?_
  refine fR rfl ?_
  refine Run.condF rfl rfl (by simp; omega) ?_
  refine fR rfl ?_
  refine rList tk (fun i (k : Nat) => { env := [(0, .ptr 0 0), (1, .t (.int .i64 f)), (5, .ptr 3 0), (8, .t (.int .i64 k)), (9, .t (.int .i64 i))], s := ⟨[(0, .cells [.t (.int .i64 m), .gsl 1 pl.length 0 pl.length 12, .own 2 2 (tk.map tE), .t (.int .i64 c), .t (.int .i64 s)]), (1, .gro pl.length (gE (gT RP.enc) pl)), (2, .arr tk.length), (3, .cells [.t (.int .i64 v.kind), .t (.int .i64 v.int), .t (.str v.text), .t (.lst (v.items.map Val.enc)), .t (.lst (v.keys.map sE))])], 4⟩ }) (fun r i k => k ≤ i ∧ k + cntT f r = cntT f tk) 4 0 rfl ⟨Nat.le_refl _, by simp⟩ rfl rfl rfl ?_ ?_ (hs := (by repeat' (first | exact trivial | refine And.intro ?_ ?_ | exact Or.inr ⟨Nat.le_of_ble_eq_true rfl, Nat.le_of_ble_eq_true rfl, rfl⟩ | exact Or.inl ⟨(Nat.le_of_ble_eq_true rfl), _, rfl, AObj.leSame (by first | rfl | exact V.bds_gE (gT_bds RP.enc _) _)⟩ | exact Or.inl ⟨(Nat.le_of_ble_eq_true rfl), _, rfl, LeO.arr (by simp)⟩)))
  · rintro k ⟨_, hk⟩
    obtain rfl : k = cntT f tk := by simpa [cntT] using hk
    refine fR rfl ?_
    refine lM rfl rfl rfl ?_
    refine fM rfl ?_
    refine Run.condF rfl rfl (by simp) ?_
    refine fR rfl ?_
    refine pu rfl ?_
    refine fM rfl ?_
    refine pu rfl ?_
    refine s64 rfl rfl rfl ?_
    refine fM rfl ?_
    refine rList pl.reverse (fun i (a : Nat) => { env := [(0, .ptr 0 0), (1, .t (.int .i64 f)), (5, .ptr 3 0), (8, .t (.int .i64 (cntT f tk))), (10, .t (.int .i64 a)), (11, .t (.int .i64 ((pl.length : Int) - 1 - i)))], s := ⟨[(0, .cells [.t (.int .i64 m), .gsl 1 pl.length 0 pl.length 12, .own 2 2 (tk.map tE), .t (.int .i64 c), .t (.int .i64 s)]), (1, .gro pl.length (gE (gT RP.enc) pl)), (2, .arr tk.length), (3, .cells [.t (.int .i64 v.kind), .t (.int .i64 v.int), .t (.str v.text), .t (.lst (v.items.map Val.enc)), .t (.lst (v.keys.map sE))])], 4⟩ }) (fun r i a => a = (fm f v (pl.length - i) (pl.drop (pl.length - i))).getD pl.length) 4 pl.length rfl (by simp [fm]) rfl rfl rfl ?_ ?_ (hs := (by repeat' (first | exact trivial | refine And.intro ?_ ?_ | exact Or.inr ⟨Nat.le_of_ble_eq_true rfl, Nat.le_of_ble_eq_true rfl, rfl⟩ | exact Or.inl ⟨(Nat.le_of_ble_eq_true rfl), _, rfl, AObj.leSame (by first | rfl | exact V.bds_gE (gT_bds RP.enc _) _)⟩ | exact Or.inl ⟨(Nat.le_of_ble_eq_true rfl), _, rfl, LeO.arr (by simp)⟩)))
    · intro a ha
      rw [List.length_reverse, Nat.sub_self, List.drop_zero] at ha
      have ea : a = rAt pl f v := ha
      rw [List.length_reverse]
      refine fR rfl ?_
      refine Run.condF rfl rfl (by simp; omega) ?_
      refine fR rfl ?_
      refine pu rfl ?_
      refine fM rfl ?_
      cases hfm : fm f v 0 pl with
      | none =>
        have e1 : rAt pl f v = pl.length := by simp [rAt, hfm]
        have e2 : rPl pl f v = pl ++ [⟨f, v, Val.zero, 0⟩] := by simp [rPl, hfm]
        have e3 : rSv pl f v = 0 := by simp [rSv, hfm]
        rw [e2, e3, e1]
        rw [ea, e1]
        refine Run.condT rfl rfl (by simp) ?_
        refine fR rfl ?_
        refine Mid.call (rcopy_ok H v hv) rfl rfl rfl rfl ?_
        refine fM rfl ?_
        refine Mid.appGG (gT RP.enc) pl [(⟨f, v, Val.zero, 0⟩ : RP)] rfl rfl (addV_t rfl (fun _ => rfl)) (gT_cellOk _) (gT_length (fun _ => rfl)) (by first | omega | (simp; omega) | (simp; done)) (by first | omega | (simp; omega) | (simp; done)) rfl ?_
        refine fM rfl ?_
        refine apM tE tk [(f, pl.length)] rfl rfl rfl rfl rfl ?_ (h1 := by first | omega | (simp; omega) | (simp; done)) (h2 := by first | omega | (simp; omega) | (simp; done))
        refine fM rfl ?_
        refine Run.fin rfl (EndOk.chg rfl rfl ?_ ?_)
        · exact .tup (.cons (.t rfl) (.cons (.t rfl) .nil))
        · refine ⟨?_, ?_, ?_, trivial⟩
          · exact .inl ⟨Nat.le_of_ble_eq_true rfl, _, rfl, .cells (.cons .t (.cons (.gslEq (by simp) rfl (by simp) (Nat.le_of_ble_eq_true rfl)) (.cons (.ownEq (by simp) (Nat.le_of_ble_eq_true rfl)) (.cons .t (.cons (.tEq (by simp)) .nil)))))⟩
          · exact .inl ⟨Nat.le_of_ble_eq_true rfl, _, rfl, .groE (by simp) (.gE rfl fun x => gT_bds RP.enc _ x)⟩
          · exact .inl ⟨Nat.le_of_ble_eq_true rfl, _, rfl, .arr (by simp)⟩
      | some j =>
        have hjl := fm_lt hfm
        have e1 : rAt pl f v = j := by simp [rAt, hfm]
        have e2 : rPl pl f v = pl := by simp [rPl, hfm]
        have e3 : rSv pl f v = 1 := by simp [rSv, hfm]
        rw [e2, e3, e1]
        rw [ea, e1]
        refine Run.condF rfl rfl (by simp; omega) ?_
        refine fR rfl ?_
        refine a64 rfl rfl rfl ?_
        refine fM rfl ?_
        refine apM tE tk [(f, j)] rfl rfl rfl rfl rfl ?_ (h1 := by first | omega | (simp; omega) | (simp; done)) (h2 := by first | omega | (simp; omega) | (simp; done))
        refine fM rfl ?_
        refine Run.fin rfl (EndOk.chg rfl rfl ?_ ?_)
        · exact .tup (.cons (.t rfl) (.cons (.t rfl) .nil))
        · refine ⟨?_, ?_, ?_, trivial⟩
          · exact .inl ⟨Nat.le_of_ble_eq_true rfl, _, rfl, .cells (.cons .t (.cons (.same rfl) (.cons (.ownEq (by simp) (Nat.le_of_ble_eq_true rfl)) (.cons .t (.cons (.tEq (by simp)) .nil)))))⟩
          · exact .inl ⟨Nat.le_of_ble_eq_true rfl, _, rfl, AObj.leSame (by first | rfl | exact V.bds_gE (gT_bds RP.enc _) _)⟩
          · exact .inl ⟨Nat.le_of_ble_eq_true rfl, _, rfl, .arr (by simp)⟩
    · intro i p r a h1 hi hd ha ih
      rw [List.length_reverse] at hi
      have h2 : pl[pl.length - 1 - i]? = some p := by
        rw [List.getElem?_reverse (by omega)] at h1; exact h1
      have hpk := hpo p (List.mem_of_getElem? h2)
      have hpos : 0 < pl.length := by omega
      have e : ((pl.length : Int) - 1 - i) = ((pl.length - 1 - i : Nat) : Int) := by omega
      have hnx : (a' : Nat) → a' = (if p.f = f ∧ sameV p.rep v = true then pl.length - 1 - i else a) → a' = (fm f v (pl.length - (i + 1)) (pl.drop (pl.length - (i + 1)))).getD pl.length := by
        intro a' ha'
        have e4 : pl.length - (i + 1) = pl.length - 1 - i := by omega
        have e5 : pl.length - 1 - i + 1 = pl.length - i := by omega
        rw [e4, drop_at h2]
        simp only [fm, e5]
        rw [ha']
        split
        · rfl
        · exact ha
      rw [e]
      generalize hz : pl.length - 1 - i = z at h2 hnx
      have hzl : z < pl.length := by omega
      have e9 : ((pl.length : Int) - 1 - ((i + 1 : Nat) : Int)) = (z : Int) - 1 := by omega
      simp only [e9] at ih
      refine fR rfl ?_
      refine Run.condT rfl rfl (by simp) ?_
      refine fR rfl ?_
      refine pu rfl ?_
      refine pu rfl ?_
      refine Mid.ldG (z) 0 (sz := 12) rfl rfl (by omega) (by omega) (gT_length (fun _ => rfl)) (h2) rfl rfl ?_
      refine fM rfl ?_
      refine gr rfl ?_
      refine gr rfl ?_
      refine Mid.ldGAg (z) 1 (sz := 12) rfl rfl rfl (by omega) (by omega) (gT_length (fun _ => rfl)) (h2) (by decide) rfl (by (repeat' (first | exact trivial | exact Bool.not_or_self _ | exact grd1 _ | exact grd2 _ | exact grd3 _ _ | exact grd4 _ _ | refine And.intro ?_ ?_ | exact rfl | (simp; done) | (simp <;> omega))); done) rfl ?_
      refine fM rfl ?_
      refine caG rfl rfl (fun hg => ⟨_, rfl, rsame_ok H p.rep v hpk.r hv, rfl⟩) rfl rfl ?_
      refine fM rfl ?_
      by_cases h : p.f = f ∧ sameV p.rep v = true
      · rw [if_pos h] at hnx
        refine Run.condT rfl rfl (by simp [h.1, h.2]) ?_
        refine fR rfl ?_
        refine s64 rfl rfl rfl ?_
        refine fM rfl ?_
        exact rWeak 4 rfl (ih z (hnx z rfl)) rfl rfl rfl (he := (by repeat' (first | exact trivial | exact LeX.t | exact LeX.top | exact LeX.nilOwn (Nat.le_of_ble_eq_true rfl) (Nat.le_of_ble_eq_true rfl) | exact LeX.ownT | exact LeX.nilT | exact LeX.same rfl | exact LeX.tEq (by simp) | exact LeX.ownEq (by simp) (Nat.le_of_ble_eq_true rfl) | exact LeX.tEq (by congr 1 <;> omega) | exact Or.inr ⟨Nat.le_of_ble_eq_true rfl, Nat.le_of_ble_eq_true rfl, rfl⟩ | refine Or.inl ⟨Nat.le_of_ble_eq_true rfl, _, rfl, ?_⟩ | refine LeO.cells ?_ | exact LeO.arr rfl | exact LeO.arr (by simp) | exact LeO.mE (by first | rfl | simp) (by first | exact Or.inl rfl | exact Or.inr rfl) | exact LeO.cE (by first | rfl | simp) | exact LeXs.cE (by first | rfl | simp) | refine LeO.map (by first | rfl | simp) ?_ (by first | exact Or.inl rfl | exact Or.inr rfl) | exact LeO.iter (by first | rfl | simp) (Nat.le_of_ble_eq_true rfl) | refine LeXs.cons ?_ ?_ | exact LeXs.nil | refine And.intro ?_ ?_))) (hs := (by repeat' (first | exact trivial | refine And.intro ?_ ?_ | exact Or.inr ⟨Nat.le_of_ble_eq_true rfl, Nat.le_of_ble_eq_true rfl, rfl⟩ | exact Or.inl ⟨(Nat.le_of_ble_eq_true rfl), _, rfl, AObj.leSame (by first | rfl | exact V.bds_gE (gT_bds RP.enc _) _)⟩ | exact Or.inl ⟨(Nat.le_of_ble_eq_true rfl), _, rfl, LeO.arr (by simp)⟩)))
      · rw [if_neg h] at hnx
        refine Run.condF rfl rfl (by simpa using h) ?_
        refine fR rfl ?_
        refine s64 rfl rfl rfl ?_
        refine fM rfl ?_
        exact rWeak 4 rfl (ih a (hnx a rfl)) rfl rfl rfl (he := (by repeat' (first | exact trivial | exact LeX.t | exact LeX.top | exact LeX.nilOwn (Nat.le_of_ble_eq_true rfl) (Nat.le_of_ble_eq_true rfl) | exact LeX.ownT | exact LeX.nilT | exact LeX.same rfl | exact LeX.tEq (by simp) | exact LeX.ownEq (by simp) (Nat.le_of_ble_eq_true rfl) | exact LeX.tEq (by congr 1 <;> omega) | exact Or.inr ⟨Nat.le_of_ble_eq_true rfl, Nat.le_of_ble_eq_true rfl, rfl⟩ | refine Or.inl ⟨Nat.le_of_ble_eq_true rfl, _, rfl, ?_⟩ | refine LeO.cells ?_ | exact LeO.arr rfl | exact LeO.arr (by simp) | exact LeO.mE (by first | rfl | simp) (by first | exact Or.inl rfl | exact Or.inr rfl) | exact LeO.cE (by first | rfl | simp) | exact LeXs.cE (by first | rfl | simp) | refine LeO.map (by first | rfl | simp) ?_ (by first | exact Or.inl rfl | exact Or.inr rfl) | exact LeO.iter (by first | rfl | simp) (Nat.le_of_ble_eq_true rfl) | refine LeXs.cons ?_ ?_ | exact LeXs.nil | refine And.intro ?_ ?_))) (hs := (by repeat' (first | exact trivial | refine And.intro ?_ ?_ | exact Or.inr ⟨Nat.le_of_ble_eq_true rfl, Nat.le_of_ble_eq_true rfl, rfl⟩ | exact Or.inl ⟨(Nat.le_of_ble_eq_true rfl), _, rfl, AObj.leSame (by first | rfl | exact V.bds_gE (gT_bds RP.enc _) _)⟩ | exact Or.inl ⟨(Nat.le_of_ble_eq_true rfl), _, rfl, LeO.arr (by simp)⟩)))
  · rintro i t r k h1 hi hd ⟨hkl, hk⟩ ih
    have hkl : k ≤ i := hkl
    simp only [cntT] at hk
    refine fR rfl ?_
    refine lM rfl rfl rfl ?_
    refine fM rfl ?_
    refine Run.condT rfl rfl (by simp; omega) ?_
    refine fR rfl ?_
    refine Mid.elemMap rfl rfl rfl h1 rfl rfl ?_
    refine fM rfl ?_
    by_cases hft : t.1 = f
    · rw [if_pos hft] at hk
      refine Run.condT rfl rfl (by simp [hft]) ?_
      refine fR rfl ?_
      refine aL rfl rfl rfl rfl rfl ?_
      refine fM rfl ?_
      refine aL rfl rfl rfl rfl rfl ?_
      refine fM rfl ?_
      exact rWeak 4 rfl (ih (k + 1) ⟨by omega, by omega⟩) rfl rfl rfl (hs := (by repeat' (first | exact trivial | refine And.intro ?_ ?_ | exact Or.inr ⟨Nat.le_of_ble_eq_true rfl, Nat.le_of_ble_eq_true rfl, rfl⟩ | exact Or.inl ⟨(Nat.le_of_ble_eq_true rfl), _, rfl, AObj.leSame (by first | rfl | exact V.bds_gE (gT_bds RP.enc _) _)⟩ | exact Or.inl ⟨(Nat.le_of_ble_eq_true rfl), _, rfl, LeO.arr (by simp)⟩)))
    · rw [if_neg hft] at hk
      refine Run.condF rfl rfl (by simp [hft]) ?_
      refine fR rfl ?_
      refine aL rfl rfl rfl rfl rfl ?_
      refine fM rfl ?_
      exact rWeak 4 rfl (ih k ⟨by omega, hk⟩) rfl rfl rfl (hs := (by repeat' (first | exact trivial | refine And.intro ?_ ?_ | exact Or.inr ⟨Nat.le_of_ble_eq_true rfl, Nat.le_of_ble_eq_true rfl, rfl⟩ | exact Or.inl ⟨(Nat.le_of_ble_eq_true rfl), _, rfl, AObj.leSame (by first | rfl | exact V.bds_gE (gT_bds RP.enc _) _)⟩ | exact Or.inl ⟨(Nat.le_of_ble_eq_true rfl), _, rfl, LeO.arr (by simp)⟩)))
end Go.GB.C35


/-
  GbZC: knowing less ahead of code of any form.
-/
namespace Go.GB
set_option linter.unusedVariables false
section
variable {P : Program} {n m : Nat} {R : St → Prop}
/- f steps of control, then the code c; j names are kept -/
end
end Go.GB


/-
  L37D: chapter 35: the reference's Next.
-/
namespace Go.GB
theorem Run.condJ2 {P : Program} {n m : Nat} {R : St → Prop} (st2 : St) {k k' k'' : List It} {z : Ar} {a b c : ACode} {st : St} {t : Bool} (hk : advK 200 k = .c (.cond z a b) :: k') (_ : advK 200 k' = .c c :: k'') (hz : z.v st = .t (.bool t))
    (hj : Run P n m R (.c c :: k'') st2) (h1 : t = true → Run P n m R (.c c :: k'') st2 → Run P n m R (.c a :: k') st)
    (h2 : t = false → Run P n m R (.c c :: k'') st2 → Run P n m R (.c b :: k') st) : Run P n m R k st :=
  Run.cond hk hz (fun h => h1 h hj) (fun h => h2 h hj)
end Go.GB
namespace Go.GB.C35
open Go.GB
set_option linter.unusedSimpArgs false
set_option linter.unusedVariables false
set_option maxRecDepth 100000
set_option maxHeartbeats 16000000
variable {P : Program}
def RP.op (p : RP) : RP := ⟨p.f, p.rep, p.res, 1⟩
/-- places made open -/
def opn (m f : Int) : Nat → List RP → List RP
  | _, [] => []
  | n, p :: r => if p.f = f ∧ p.st = 0 ∧ (n : Int) < m then p.op :: opn m f (n + 1) r else p :: opn m f n r
def opnN (m f : Int) : Nat → List RP → Nat
  | n, [] => n
  | n, p :: r => if p.f = f ∧ p.st = 0 ∧ (n : Int) < m then opnN m f (n + 1) r else opnN m f n r
theorem opn_len (m f : Int) : ∀ (pl : List RP) (n : Nat), (opn m f n pl).length = pl.length
  | [], _ => rfl
  | p :: r, n => by
    simp only [opn]
    split <;> simp [opn_len m f r]
theorem opn_ok {m f : Int} : ∀ {pl : List RP} {n : Nat}, (∀ p, p ∈ pl → p.Ok) → ∀ p, p ∈ opn m f n pl → p.Ok
  | [], _, _, p, h => by simp [opn] at h
  | q :: r, n, hp, p, h => by
    have hr := fun n => opn_ok (m := m) (f := f) (pl := r) (n := n) fun p h => hp p (by simp [h])
    have hq := hp q (by simp)
    simp only [opn] at h
    split at h
    · rcases List.mem_cons.1 h with rfl | h
      · exact ⟨hq.r, hq.s⟩
      · exact hr _ p h
    · rcases List.mem_cons.1 h with rfl | h
      · exact hq
      · exact hr _ p h
def nPl (m f : Int) (pl : List RP) : List RP := if bIx f 0 pl = [] then opn m f 0 pl else pl
def nC (m f : Int) (pl : List RP) : Int := if bIx f 0 pl = [] ∧ 0 < opnN m f 0 pl then 1 else 0
theorem nPl_len (m f : Int) (pl : List RP) : (nPl m f pl).length = pl.length := by
  unfold nPl; split
  · exact opn_len m f pl 0
  · rfl
def repAt (pl : List RP) (i : Nat) : Val := match pl[i]? with | some p => p.rep | none => Val.zero
theorem bIx_lt {f : Int} : ∀ {pl : List RP} {i j : Nat}, j ∈ bIx f i pl → i ≤ j ∧ j < i + pl.length
  | [], i, j, h => by simp [bIx] at h
  | p :: r, i, j, h => by
    simp only [bIx] at h
    split at h
    · rcases List.mem_cons.1 h with rfl | h
      · simp
      · have := bIx_lt h; simp; omega
    · have := bIx_lt h; simp; omega
theorem bIx_length (f : Int) : ∀ (pl : List RP) (i : Nat), (bIx f i pl).length ≤ pl.length
  | [], i => Nat.le_refl _
  | p :: r, i => by
    have := bIx_length f r (i + 1)
    simp only [bIx]
    split <;> simp <;> omega
def rNx (m f : Int) (pl : List RP) : List Val := (bIx f 0 (nPl m f pl)).map (repAt (nPl m f pl))
theorem rnext_ok (H : Pr P) (m c s f : Int) (pl : List RP) (tk : List (Int × Nat)) (hc : 0 ≤ c ∧ c < 1000000) (hpl : pl.length < 1000000) (hpo : ∀ p, p ∈ pl → p.Ok) : FnOk P 28 [.ptr 0 0, .t (.int .i64 f)] ⟨[(0, .cells [.t (.int .i64 m), .gsl 1 pl.length 0 pl.length 12, .own 2 2 (tk.map tE), .t (.int .i64 c), .t (.int .i64 s)]), (1, .gro pl.length (gE (gT RP.enc) pl)), (2, .arr tk.length)], 3⟩ { v := .tup [.t (.lst ((rNx m f pl).map Val.enc)), .t (.bool (decide (0 < (rNx m f pl).length)))], ob := [(0, .cells [.t (.int .i64 m), .gsl 1 (nPl m f pl).length 0 (nPl m f pl).length 12, .own 2 2 (tk.map tE), .t (.int .i64 (c + nC m f pl)), .t (.int .i64 s)]), (1, .gro (nPl m f pl).length (gE (gT RP.enc) (nPl m f pl))), (2, .arr tk.length)], rd := true } := by
  have hb : stoBd 3 [(0, .cells [.t (.int .i64 m), .gsl 1 pl.length 0 pl.length 12, .own 2 2 (tk.map tE), .t (.int .i64 c), .t (.int .i64 s)]), (1, .gro pl.length (gE (gT RP.enc) pl)), (2, .arr tk.length)] = true := (by repeat' (first | exact (rfl : stoBd _ [] = true) | refine stoBd_cons (Nat.le_of_ble_eq_true rfl) ?_ ?_ | exact (by first | rfl | exact V.bds_gE (gT_bds RP.enc _) _)))
  have hb2 : stoBd 3 [(0, .cells [.t (.int .i64 m), .gsl 1 (nPl m f pl).length 0 (nPl m f pl).length 12, .own 2 2 (tk.map tE), .t (.int .i64 (c + nC m f pl)), .t (.int .i64 s)]), (1, .gro (nPl m f pl).length (gE (gT RP.enc) (nPl m f pl))), (2, .arr tk.length)] = true := (by repeat' (first | exact (rfl : stoBd _ [] = true) | refine stoBd_cons (Nat.le_of_ble_eq_true rfl) ?_ ?_ | exact (by first | rfl | exact V.bds_gE (gT_bds RP.enc _) _)))
  have hnl := nPl_len m f pl
  have hpo2 : ∀ p, p ∈ nPl m f pl → p.Ok := by
    intro p hp
    unfold nPl at hp
    split at hp
    · exact opn_ok hpo p hp
    · exact hpo p hp
  refine FnOk.run H.i28 H.mixed rfl rfl ?_
  refine fR rfl ?_
  refine Run.condF rfl rfl rfl ?_
  refine fR rfl ?_
  refine Mid.callS (batch_ok H m c s f pl tk hpl) rfl rfl hb rfl ?_
  refine lM rfl rfl rfl ?_
  refine fM rfl ?_
  refine Run.condJ2 { env := [(0, .ptr 0 0), (1, .t (.int .i64 f))], s := ⟨[(0, .cells [.t (.int .i64 m), .gsl 1 (nPl m f pl).length 0 (nPl m f pl).length 12, .own 2 2 (tk.map tE), .t (.int .i64 (c + nC m f pl)), .t (.int .i64 s)]), (1, .gro (nPl m f pl).length (gE (gT RP.enc) (nPl m f pl))), (2, .arr tk.length)], 3⟩ } rfl rfl rfl ?_ ?_ ?_
  · refine fR rfl ?_
    refine Mid.callS (batch_ok H m (c + nC m f pl) s f (nPl m f pl) tk (by omega)) rfl rfl hb2 rfl ?_
    refine fM rfl ?_
    refine rList (bIx f 0 (nPl m f pl)) (fun i (B : List Val) => { env := [(0, .ptr 0 0), (8, .t (.lst ((bIx f 0 (nPl m f pl)).map nN))), (9, .own 3 5 (B.map Val.enc)), (10, .t (.int .i64 i))], s := ⟨[(0, .cells [.t (.int .i64 m), .gsl 1 (nPl m f pl).length 0 (nPl m f pl).length 12, .own 2 2 (tk.map tE), .t (.int .i64 (c + nC m f pl)), .t (.int .i64 s)]), (1, .gro (nPl m f pl).length (gE (gT RP.enc) (nPl m f pl))), (2, .arr tk.length), (3, .arr B.length)], 4⟩ }) (fun r i B => B.length = i ∧ B ++ r.map (repAt (nPl m f pl)) = rNx m f pl) 3 [] rfl ⟨rfl, rfl⟩ rfl rfl rfl ?_ ?_ (hs := (by repeat' (first | exact trivial | refine And.intro ?_ ?_ | exact Or.inr ⟨Nat.le_of_ble_eq_true rfl, Nat.le_of_ble_eq_true rfl, rfl⟩ | exact Or.inl ⟨(Nat.le_of_ble_eq_true rfl), _, rfl, AObj.leSame (by first | rfl | exact V.bds_gE (gT_bds RP.enc _) _)⟩ | exact Or.inl ⟨(Nat.le_of_ble_eq_true rfl), _, rfl, LeO.arr (by simp)⟩)))
    · rintro B ⟨_, hB⟩
      have hB : B = rNx m f pl := by simpa using hB
      refine fR rfl ?_
      refine lM rfl rfl rfl ?_
      refine fM rfl ?_
      refine Run.condF rfl rfl (by simp) ?_
      refine fR rfl ?_
      refine lM rfl rfl rfl ?_
      refine fM rfl ?_
      refine Run.fin rfl (EndOk.chg rfl rfl ?_ ?_)
      · exact .tup (.cons (.own (by rw [hB])) (.cons (.t (by rw [hB]; simp)) .nil))
      · exact (by repeat' (first | exact trivial | refine And.intro ?_ ?_ | exact Or.inr ⟨Nat.le_of_ble_eq_true rfl, Nat.le_of_ble_eq_true rfl, rfl⟩ | exact Or.inl ⟨(Nat.le_of_ble_eq_true rfl), _, rfl, AObj.leSame (by first | rfl | exact V.bds_gE (gT_bds RP.enc _) _)⟩ | exact Or.inl ⟨(Nat.le_of_ble_eq_true rfl), _, rfl, LeO.arr (by simp)⟩))
    · rintro i x r B h1 hi hd ⟨hBl, hB⟩ ih
      have hBl : B.length = i := hBl
      have hx := bIx_lt (List.mem_of_getElem? h1)
      have hbl := bIx_length f (nPl m f pl) 0
      obtain ⟨p, hp⟩ : ∃ p, (nPl m f pl)[x]? = some p := ⟨_, List.getElem?_eq_getElem (by omega)⟩
      have hpk := hpo2 p (List.mem_of_getElem? hp)
      have hrp : repAt (nPl m f pl) x = p.rep := by simp [repAt, hp]
      rw [List.map_cons, hrp] at hB
      have hpos : 0 < (nPl m f pl).length := by omega
      refine fR rfl ?_
      refine lM rfl rfl rfl ?_
      refine fM rfl ?_
      refine Run.condT rfl rfl (by simp; omega) ?_
      refine fR rfl ?_
      refine Mid.elemMap rfl rfl rfl h1 rfl rfl ?_
      refine fM rfl ?_
      refine pu rfl ?_
      refine pu rfl ?_
      refine Mid.ldGA (x) 1 (sz := 12) rfl rfl (by omega) (by omega) (gT_length (fun _ => rfl)) (hp) (by decide) rfl rfl ?_
      skip
      refine Mid.call (rcopy_ok H p.rep hpk.r) rfl rfl rfl rfl ?_
      refine fM rfl ?_
      refine apM Val.enc B [p.rep] rfl (congrArg (fun c => some (T.lst [c])) (Val.enc_eq p.rep).symm) rfl rfl rfl ?_ (hl := fun x => (congrArg List.length (Val.enc_eq x)).trans rfl)
      refine fM rfl ?_
      refine aL rfl rfl rfl rfl rfl ?_
      refine fM rfl ?_
      exact rWeak 4 rfl (ih (B ++ [p.rep]) ⟨by simp; omega, by rw [← hB]; simp⟩) rfl rfl rfl (hs := (by repeat' (first | exact trivial | refine And.intro ?_ ?_ | exact Or.inr ⟨Nat.le_of_ble_eq_true rfl, Nat.le_of_ble_eq_true rfl, rfl⟩ | exact Or.inl ⟨(Nat.le_of_ble_eq_true rfl), _, rfl, AObj.leSame (by first | rfl | exact V.bds_gE (gT_bds RP.enc _) _)⟩ | exact Or.inl ⟨(Nat.le_of_ble_eq_true rfl), _, rfl, LeO.arr (by simp)⟩)))
  · intro ht hrest
    have he : bIx f 0 pl = [] := by simpa using ht
    have e1 : nPl m f pl = opn m f 0 pl := by simp [nPl, he]
    have e2 : nC m f pl = if 0 < opnN m f 0 pl then 1 else 0 := by simp [nC, he]
    rw [e1, e2] at hrest ⊢
    refine fR rfl ?_
    refine rList pl (fun i (B : List RP × Nat) => { env := [(0, .ptr 0 0), (1, .t (.int .i64 f)), (6, .t (.int .i64 B.2)), (7, .t (.int .i64 i))], s := ⟨[(0, .cells [.t (.int .i64 m), .gsl 1 pl.length 0 pl.length 12, .own 2 2 (tk.map tE), .t (.int .i64 c), .t (.int .i64 s)]), (1, .gro pl.length (gE (gT RP.enc) (B.1 ++ pl.drop i))), (2, .arr tk.length)], 3⟩ }) (fun r i B => B.1.length = i ∧ B.2 ≤ i ∧ B.1 ++ opn m f B.2 r = opn m f 0 pl ∧ opnN m f B.2 r = opnN m f 0 pl) 3 ([], 0) rfl ⟨rfl, Nat.le_refl _, rfl, rfl⟩ rfl rfl rfl ?_ ?_ (hs := (by repeat' (first | exact trivial | refine And.intro ?_ ?_ | exact Or.inr ⟨Nat.le_of_ble_eq_true rfl, Nat.le_of_ble_eq_true rfl, rfl⟩ | exact Or.inl ⟨(Nat.le_of_ble_eq_true rfl), _, rfl, AObj.leSame (by first | rfl | exact V.bds_gE (gT_bds RP.enc _) _)⟩ | exact Or.inl ⟨(Nat.le_of_ble_eq_true rfl), _, rfl, LeO.arr (by simp)⟩)))
    · rintro ⟨D, n⟩ ⟨h1, h2, h3, h4⟩
      simp only [opn, List.append_nil, opnN] at h1 h2 h3 h4
      subst h3
      subst h4
      have hol := opn_len m f pl 0
      refine fR rfl ?_
      refine pu rfl ?_
      refine fM rfl ?_
      refine Run.condF rfl rfl (by simp) ?_
      refine fR rfl ?_
      by_cases hn : 0 < opnN m f 0 pl
      · rw [if_pos hn] at hrest ⊢
        refine Run.condT rfl rfl (by simp; omega) ?_
        refine Run.fast (f := 5) rfl (by (repeat' (first | exact trivial | exact Bool.not_or_self _ | exact grd1 _ | exact grd2 _ | exact grd3 _ _ | exact grd4 _ _ | refine And.intro ?_ ?_ | exact rfl | (simp; done) | (simp <;> omega))); done) ?_
        refine a64 rfl rfl rfl ?_
        refine Mid.fast (f := 4) rfl (by (repeat' (first | exact trivial | exact Bool.not_or_self _ | exact grd1 _ | exact grd2 _ | exact grd3 _ _ | exact grd4 _ _ | refine And.intro ?_ ?_ | exact rfl | (simp; done) | (simp <;> omega))); done) ?_
        exact rWeakC 3 rfl hrest rfl rfl rfl (he := (by repeat' (first | exact trivial | exact LeX.t | exact LeX.top | exact LeX.nilOwn (Nat.le_of_ble_eq_true rfl) (Nat.le_of_ble_eq_true rfl) | exact LeX.ownT | exact LeX.nilT | exact LeX.same rfl | exact LeX.tEq (by simp) | exact LeX.ownEq (by simp) (Nat.le_of_ble_eq_true rfl) | exact LeX.tEq (by congr 1 <;> omega) | exact Or.inr ⟨Nat.le_of_ble_eq_true rfl, Nat.le_of_ble_eq_true rfl, rfl⟩ | refine Or.inl ⟨Nat.le_of_ble_eq_true rfl, _, rfl, ?_⟩ | refine LeO.cells ?_ | exact LeO.arr rfl | exact LeO.arr (by simp) | exact LeO.mE (by first | rfl | simp) (by first | exact Or.inl rfl | exact Or.inr rfl) | exact LeO.cE (by first | rfl | simp) | exact LeXs.cE (by first | rfl | simp) | refine LeO.map (by first | rfl | simp) ?_ (by first | exact Or.inl rfl | exact Or.inr rfl) | exact LeO.iter (by first | rfl | simp) (Nat.le_of_ble_eq_true rfl) | refine LeXs.cons ?_ ?_ | exact LeXs.nil | refine And.intro ?_ ?_))) (hs := ⟨.inl ⟨Nat.le_of_ble_eq_true rfl, _, rfl, .cells (.cons .t (.cons (.gslEq hol.symm rfl hol.symm (Nat.le_of_ble_eq_true rfl)) (.cons (.same rfl) (.cons (.tEq (by simp)) (.cons .t .nil)))))⟩, .inl ⟨Nat.le_of_ble_eq_true rfl, _, rfl, .groE hol.symm (.gE (by simp) fun x => gT_bds RP.enc _ x)⟩, .inl ⟨Nat.le_of_ble_eq_true rfl, _, rfl, .arr rfl⟩, trivial⟩)
      · rw [if_neg hn] at hrest ⊢
        refine Run.condF rfl rfl (by simp; omega) ?_
        exact rWeakC 3 rfl hrest rfl rfl rfl (he := (by repeat' (first | exact trivial | exact LeX.t | exact LeX.top | exact LeX.nilOwn (Nat.le_of_ble_eq_true rfl) (Nat.le_of_ble_eq_true rfl) | exact LeX.ownT | exact LeX.nilT | exact LeX.same rfl | exact LeX.tEq (by simp) | exact LeX.ownEq (by simp) (Nat.le_of_ble_eq_true rfl) | exact LeX.tEq (by congr 1 <;> omega) | exact Or.inr ⟨Nat.le_of_ble_eq_true rfl, Nat.le_of_ble_eq_true rfl, rfl⟩ | refine Or.inl ⟨Nat.le_of_ble_eq_true rfl, _, rfl, ?_⟩ | refine LeO.cells ?_ | exact LeO.arr rfl | exact LeO.arr (by simp) | exact LeO.mE (by first | rfl | simp) (by first | exact Or.inl rfl | exact Or.inr rfl) | exact LeO.cE (by first | rfl | simp) | exact LeXs.cE (by first | rfl | simp) | refine LeO.map (by first | rfl | simp) ?_ (by first | exact Or.inl rfl | exact Or.inr rfl) | exact LeO.iter (by first | rfl | simp) (Nat.le_of_ble_eq_true rfl) | refine LeXs.cons ?_ ?_ | exact LeXs.nil | refine And.intro ?_ ?_))) (hs := ⟨.inl ⟨Nat.le_of_ble_eq_true rfl, _, rfl, .cells (.cons .t (.cons (.gslEq hol.symm rfl hol.symm (Nat.le_of_ble_eq_true rfl)) (.cons (.same rfl) (.cons (.tEq (by simp)) (.cons .t .nil)))))⟩, .inl ⟨Nat.le_of_ble_eq_true rfl, _, rfl, .groE hol.symm (.gE (by simp) fun x => gT_bds RP.enc _ x)⟩, .inl ⟨Nat.le_of_ble_eq_true rfl, _, rfl, .arr rfl⟩, trivial⟩)
    · rintro i p r ⟨D, n⟩ h1 hi hd ⟨hD, hn, ho, hoN⟩ ih
      have hD : D.length = i := hD
      have hn : n ≤ i := hn
      simp only [opn, opnN] at ho hoN
      have hpos : 0 < pl.length := by omega
      have hc2 : (D ++ pl.drop i)[i]? = some p := by
        rw [List.getElem?_append_right (by omega), hD, Nat.sub_self, List.getElem?_drop, Nat.add_zero]; exact h1
      have hdi : pl.drop i = p :: pl.drop (i + 1) := drop_at h1
      refine fR rfl ?_
      refine pu rfl ?_
      refine fM rfl ?_
      refine Run.condT rfl rfl (by simp; omega) ?_
      refine fR rfl ?_
      refine pu rfl ?_
      refine pu rfl ?_
      refine Mid.ldG (i) 0 (sz := 12) rfl rfl (by omega) (by omega) (gT_length (fun _ => rfl)) (hc2) rfl rfl ?_
      refine fM rfl ?_
      refine gr rfl ?_
      refine gr rfl ?_
      refine Mid.ldGg (i) 11 (sz := 12) rfl rfl rfl (by omega) (by omega) (gT_length (fun _ => rfl)) (hc2) rfl (by (repeat' (first | exact trivial | exact Bool.not_or_self _ | exact grd1 _ | exact grd2 _ | exact grd3 _ _ | exact grd4 _ _ | refine And.intro ?_ ?_ | exact rfl | (simp; done) | (simp <;> omega))); done) rfl ?_
      refine fM rfl ?_
      by_cases h : p.f = f ∧ p.st = 0 ∧ (n : Int) < m
      · rw [if_pos h] at ho hoN
        refine Run.condT rfl rfl (by simp [h.1, h.2.1, h.2.2]) ?_
        refine fR rfl ?_
        refine pu rfl ?_
        refine fM rfl ?_
        refine Mid.stG (p.op) (i) 11 (sz := 12) rfl rfl rfl rfl rfl (by omega) (gT_length (fun _ => rfl)) (hc2) (by decide) rfl rfl ?_
        refine fM rfl ?_
        refine aL rfl rfl rfl rfl rfl ?_
        refine fM rfl ?_
        refine aL rfl rfl rfl rfl rfl ?_
        refine fM rfl ?_
        exact rWeak 3 rfl (ih (D ++ [p.op], n + 1) ⟨by simp [hD], by show n + 1 ≤ i + 1; omega, by rw [← ho]; simp, hoN⟩) rfl rfl rfl (he := (by repeat' (first | exact trivial | exact LeX.t | exact LeX.top | exact LeX.nilOwn (Nat.le_of_ble_eq_true rfl) (Nat.le_of_ble_eq_true rfl) | exact LeX.ownT | exact LeX.nilT | exact LeX.same rfl | exact LeX.tEq (by simp) | exact LeX.ownEq (by simp) (Nat.le_of_ble_eq_true rfl) | exact LeX.tEq (by congr 1 <;> omega) | exact Or.inr ⟨Nat.le_of_ble_eq_true rfl, Nat.le_of_ble_eq_true rfl, rfl⟩ | refine Or.inl ⟨Nat.le_of_ble_eq_true rfl, _, rfl, ?_⟩ | refine LeO.cells ?_ | exact LeO.arr rfl | exact LeO.arr (by simp) | exact LeO.mE (by first | rfl | simp) (by first | exact Or.inl rfl | exact Or.inr rfl) | exact LeO.cE (by first | rfl | simp) | exact LeXs.cE (by first | rfl | simp) | refine LeO.map (by first | rfl | simp) ?_ (by first | exact Or.inl rfl | exact Or.inr rfl) | exact LeO.iter (by first | rfl | simp) (Nat.le_of_ble_eq_true rfl) | refine LeXs.cons ?_ ?_ | exact LeXs.nil | refine And.intro ?_ ?_))) (hs := ⟨.inl ⟨Nat.le_of_ble_eq_true rfl, _, rfl, AObj.leSame rfl⟩, .inl ⟨Nat.le_of_ble_eq_true rfl, _, rfl, .groE rfl (.gE (by rw [hdi]; simp [← hD]) fun x => gT_bds RP.enc _ x)⟩, .inl ⟨Nat.le_of_ble_eq_true rfl, _, rfl, .arr rfl⟩, trivial⟩)
      · rw [if_neg h] at ho hoN
        refine Run.condF rfl rfl (by simp; omega) ?_
        refine fR rfl ?_
        refine aL rfl rfl rfl rfl rfl ?_
        refine fM rfl ?_
        exact rWeak 3 rfl (ih (D ++ [p], n) ⟨by simp [hD], by show n ≤ i + 1; omega, by rw [← ho]; simp, hoN⟩) rfl rfl rfl (he := (by repeat' (first | exact trivial | exact LeX.t | exact LeX.top | exact LeX.nilOwn (Nat.le_of_ble_eq_true rfl) (Nat.le_of_ble_eq_true rfl) | exact LeX.ownT | exact LeX.nilT | exact LeX.same rfl | exact LeX.tEq (by simp) | exact LeX.ownEq (by simp) (Nat.le_of_ble_eq_true rfl) | exact LeX.tEq (by congr 1 <;> omega) | exact Or.inr ⟨Nat.le_of_ble_eq_true rfl, Nat.le_of_ble_eq_true rfl, rfl⟩ | refine Or.inl ⟨Nat.le_of_ble_eq_true rfl, _, rfl, ?_⟩ | refine LeO.cells ?_ | exact LeO.arr rfl | exact LeO.arr (by simp) | exact LeO.mE (by first | rfl | simp) (by first | exact Or.inl rfl | exact Or.inr rfl) | exact LeO.cE (by first | rfl | simp) | exact LeXs.cE (by first | rfl | simp) | refine LeO.map (by first | rfl | simp) ?_ (by first | exact Or.inl rfl | exact Or.inr rfl) | exact LeO.iter (by first | rfl | simp) (Nat.le_of_ble_eq_true rfl) | refine LeXs.cons ?_ ?_ | exact LeXs.nil | refine And.intro ?_ ?_))) (hs := ⟨.inl ⟨Nat.le_of_ble_eq_true rfl, _, rfl, AObj.leSame rfl⟩, .inl ⟨Nat.le_of_ble_eq_true rfl, _, rfl, .groE rfl (.gE (by rw [hdi]; simp) fun x => gT_bds RP.enc _ x)⟩, .inl ⟨Nat.le_of_ble_eq_true rfl, _, rfl, .arr rfl⟩, trivial⟩)
  · intro ht hrest
    have he : bIx f 0 pl ≠ [] := by simpa using ht
    have e1 : nPl m f pl = pl := by simp [nPl, he]
    have e2 : nC m f pl = 0 := by simp [nC, he]
    rw [e1, e2] at hrest ⊢
    exact rWeakC 3 rfl hrest rfl rfl rfl (he := (by repeat' (first | exact trivial | exact LeX.t | exact LeX.top | exact LeX.nilOwn (Nat.le_of_ble_eq_true rfl) (Nat.le_of_ble_eq_true rfl) | exact LeX.ownT | exact LeX.nilT | exact LeX.same rfl | exact LeX.tEq (by simp) | exact LeX.ownEq (by simp) (Nat.le_of_ble_eq_true rfl) | exact LeX.tEq (by congr 1 <;> omega) | exact Or.inr ⟨Nat.le_of_ble_eq_true rfl, Nat.le_of_ble_eq_true rfl, rfl⟩ | refine Or.inl ⟨Nat.le_of_ble_eq_true rfl, _, rfl, ?_⟩ | refine LeO.cells ?_ | exact LeO.arr rfl | exact LeO.arr (by simp) | exact LeO.mE (by first | rfl | simp) (by first | exact Or.inl rfl | exact Or.inr rfl) | exact LeO.cE (by first | rfl | simp) | exact LeXs.cE (by first | rfl | simp) | refine LeO.map (by first | rfl | simp) ?_ (by first | exact Or.inl rfl | exact Or.inr rfl) | exact LeO.iter (by first | rfl | simp) (Nat.le_of_ble_eq_true rfl) | refine LeXs.cons ?_ ?_ | exact LeXs.nil | refine And.intro ?_ ?_))) (hs := ⟨.inl ⟨Nat.le_of_ble_eq_true rfl, _, rfl, .cells (.cons .t (.cons (.same rfl) (.cons (.same rfl) (.cons (.tEq (by simp)) (.cons .t .nil)))))⟩, .inl ⟨Nat.le_of_ble_eq_true rfl, _, rfl, AObj.leSame (by first | rfl | exact V.bds_gE (gT_bds RP.enc _) _)⟩, .inl ⟨Nat.le_of_ble_eq_true rfl, _, rfl, .arr rfl⟩, trivial⟩)
end Go.GB.C35


/-
  L37E: chapter 35: the reference's Done.
-/
namespace Go.GB.C35
open Go.GB
set_option linter.unusedSimpArgs false
set_option linter.unusedVariables false
set_option maxRecDepth 100000
set_option maxHeartbeats 16000000
variable {P : Program}
def RP.dn (p : RP) (v : Val) : RP := ⟨p.f, p.rep, v, 2⟩
def setD : List RP → List Nat → List Val → List RP
  | pl, b :: bs, v :: vs => setD (pl.modify b fun p => p.dn v) bs vs
  | pl, _, _ => pl
theorem setD_len : ∀ (bs : List Nat) (rs : List Val) (pl : List RP), (setD pl bs rs).length = pl.length
  | [], rs, pl => by cases rs <;> rfl
  | b :: bs, [], pl => rfl
  | b :: bs, v :: vs, pl => by simp only [setD]; rw [setD_len bs vs]; simp
theorem mod_ok {pl : List RP} {i : Nat} {v : Val} (hv : v.Ok) (h : ∀ p, p ∈ pl → p.Ok) : ∀ p, p ∈ pl.modify i (fun p => p.dn v) → p.Ok := by
  intro p hp
  obtain ⟨j, hj⟩ := List.getElem?_of_mem hp
  simp only [List.getElem?_modify] at hj
  cases hq : pl[j]? with
  | none => rw [hq] at hj; simp at hj
  | some q =>
    rw [hq] at hj
    have hqk := h q (List.mem_of_getElem? hq)
    simp only [Option.map_eq_map, Option.map_some, Option.some.injEq] at hj
    split at hj
    · subst hj; exact ⟨hqk.r, hv⟩
    · subst hj; exact hqk
theorem set_mod {pl : List RP} {i : Nat} {p x : RP} {v : Val} (h : pl[i]? = some p) : (pl.set i x).set i (p.dn v) = pl.modify i (fun p => p.dn v) := by
  rw [List.set_set]
  apply List.ext_getElem?
  intro j
  simp only [List.getElem?_modify, List.getElem?_set]
  by_cases hj : i = j
  · subst hj
    obtain ⟨this, rfl⟩ := List.getElem?_eq_some_iff.1 h
    simp [this]
  · simp [hj]
def rDone (pl : List RP) (f : Int) (rs : List Val) : Int × List RP :=
  if bIx f 0 pl = [] then (12, pl) else if (bIx f 0 pl).length = rs.length then (0, setD pl (bIx f 0 pl) rs) else (2, pl)
theorem rdone_ok (H : Pr P) (m c s f : Int) (pl : List RP) (tk : List (Int × Nat)) (rs : List Val) (hm : m ≠ 0) (hr : ∀ v, v ∈ rs → v.Ok) (hrl : rs.length < 1000000) (hpl : pl.length < 1000000) (hpo : ∀ p, p ∈ pl → p.Ok) : FnOk P 29 [.ptr 0 0, .t (.int .i64 f), .t (.lst (rs.map Val.enc))] ⟨[(0, .cells [.t (.int .i64 m), .gsl 1 pl.length 0 pl.length 12, .own 2 2 (tk.map tE), .t (.int .i64 c), .t (.int .i64 s)]), (1, .gro pl.length (gE (gT RP.enc) pl)), (2, .arr tk.length)], 3⟩ { v := .t (.int .i64 (rDone pl f rs).1), ob := [(0, .cells [.t (.int .i64 m), .gsl 1 (rDone pl f rs).2.length 0 (rDone pl f rs).2.length 12, .own 2 2 (tk.map tE), .t (.int .i64 c), .t (.int .i64 s)]), (1, .gro (rDone pl f rs).2.length (gE (gT RP.enc) (rDone pl f rs).2)), (2, .arr tk.length)], rd := true } := by
  have hb : stoBd 3 [(0, .cells [.t (.int .i64 m), .gsl 1 pl.length 0 pl.length 12, .own 2 2 (tk.map tE), .t (.int .i64 c), .t (.int .i64 s)]), (1, .gro pl.length (gE (gT RP.enc) pl)), (2, .arr tk.length)] = true := (by repeat' (first | exact (rfl : stoBd _ [] = true) | refine stoBd_cons (Nat.le_of_ble_eq_true rfl) ?_ ?_ | exact (by first | rfl | exact V.bds_gE (gT_bds RP.enc _) _)))
  have hbl := bIx_length f pl 0
  refine FnOk.run H.i29 H.mixed rfl rfl ?_
  refine fR rfl ?_
  refine Run.condF rfl rfl (by simp [hm]) ?_
  refine fR rfl ?_
  refine Mid.callS (batch_ok H m c s f pl tk hpl) rfl rfl hb rfl ?_
  refine fM rfl ?_
  refine lM rfl rfl rfl ?_
  refine fM rfl ?_
  by_cases he : bIx f 0 pl = []
  · have e1 : rDone pl f rs = (12, pl) := by simp [rDone, he]
    rw [e1]
    refine Run.condT rfl rfl (by simp [he]) ?_
    refine fR rfl ?_
    refine Run.fin rfl (EndOk.chg rfl rfl (.t rfl) (by repeat' (first | exact trivial | refine And.intro ?_ ?_ | exact Or.inr ⟨Nat.le_of_ble_eq_true rfl, Nat.le_of_ble_eq_true rfl, rfl⟩ | exact Or.inl ⟨(Nat.le_of_ble_eq_true rfl), _, rfl, AObj.leSame (by first | rfl | exact V.bds_gE (gT_bds RP.enc _) _)⟩ | exact Or.inl ⟨(Nat.le_of_ble_eq_true rfl), _, rfl, LeO.arr (by simp)⟩)))
  · refine Run.condF rfl rfl (by simp [he]) ?_
    refine fR rfl ?_
    refine lM rfl rfl rfl ?_
    refine fM rfl ?_
    refine lM rfl rfl rfl ?_
    refine fM rfl ?_
    by_cases hl : (bIx f 0 pl).length = rs.length
    · have e1 : rDone pl f rs = (0, setD pl (bIx f 0 pl) rs) := by simp [rDone, he, hl]
      rw [e1]
      refine Run.condF rfl rfl (by simp [hl]) ?_
      refine fR rfl ?_
      refine rList (bIx f 0 pl) (fun i (B : List RP) => { env := [(0, .ptr 0 0), (2, .t (.lst (rs.map Val.enc))), (7, .t (.lst ((bIx f 0 pl).map nN))), (8, .t (.int .i64 i))], s := ⟨[(0, .cells [.t (.int .i64 m), .gsl 1 pl.length 0 pl.length 12, .own 2 2 (tk.map tE), .t (.int .i64 c), .t (.int .i64 s)]), (1, .gro pl.length (gE (gT RP.enc) B)), (2, .arr tk.length)], 3⟩ }) (fun r i B => setD B r (rs.drop i) = setD pl (bIx f 0 pl) rs ∧ B.length = pl.length ∧ ∀ p, p ∈ B → p.Ok) 3 pl rfl ⟨rfl, rfl, hpo⟩ rfl rfl rfl ?_ ?_ (hs := (by repeat' (first | exact trivial | refine And.intro ?_ ?_ | exact Or.inr ⟨Nat.le_of_ble_eq_true rfl, Nat.le_of_ble_eq_true rfl, rfl⟩ | exact Or.inl ⟨(Nat.le_of_ble_eq_true rfl), _, rfl, AObj.leSame (by first | rfl | exact V.bds_gE (gT_bds RP.enc _) _)⟩ | exact Or.inl ⟨(Nat.le_of_ble_eq_true rfl), _, rfl, LeO.arr (by simp)⟩)))
      · rintro B ⟨h1, h2, _⟩
        have h1 : B = setD pl (bIx f 0 pl) rs := by rw [← h1]; cases rs.drop (bIx f 0 pl).length <;> rfl
        have hsl := setD_len (bIx f 0 pl) rs pl
        refine fR rfl ?_
        refine lM rfl rfl rfl ?_
        refine fM rfl ?_
        refine Run.condF rfl rfl (by simp) ?_
        refine fR rfl ?_
        refine Run.fin rfl (EndOk.chg rfl rfl (.t rfl) ⟨.inl ⟨Nat.le_of_ble_eq_true rfl, _, rfl, .cells (.cons .t (.cons (.gslEq hsl.symm rfl hsl.symm (Nat.le_of_ble_eq_true rfl)) (.cons (.same rfl) (.cons .t (.cons .t .nil)))))⟩, .inl ⟨Nat.le_of_ble_eq_true rfl, _, rfl, .groE hsl.symm (.gE h1 fun x => gT_bds RP.enc _ x)⟩, .inl ⟨Nat.le_of_ble_eq_true rfl, _, rfl, .arr rfl⟩, trivial⟩)
      · rintro i x r B h1 hi hd ⟨h2, h3, h4⟩ ih
        have h3 : B.length = pl.length := h3
        have hx := bIx_lt (List.mem_of_getElem? h1)
        obtain ⟨p, hp⟩ : ∃ p, B[x]? = some p := ⟨_, List.getElem?_eq_getElem (by omega)⟩
        have hir : i < rs.length := by omega
        obtain ⟨v, hv⟩ : ∃ v, rs[i]? = some v := ⟨_, List.getElem?_eq_getElem hir⟩
        have hvk := hr v (List.mem_of_getElem? hv)
        rw [drop_at hv] at h2
        simp only [setD] at h2
        have hpos : 0 < pl.length := by omega
        have hxl : x < B.length := by omega
        refine fR rfl ?_
        refine lM rfl rfl rfl ?_
        refine fM rfl ?_
        refine Run.condT rfl rfl (by simp; omega) ?_
        refine fR rfl ?_
        refine Mid.elemMap rfl rfl rfl h1 rfl rfl ?_
        refine fM rfl ?_
        refine pu rfl ?_
        refine fM rfl ?_
        refine Mid.stG ((⟨p.f, p.rep, p.res, 2⟩ : RP)) (x) 11 (sz := 12) rfl rfl rfl rfl rfl (by omega) (gT_length (fun _ => rfl)) (hp) (by decide) rfl rfl ?_
        refine fM rfl ?_
        refine Mid.elemMap rfl rfl rfl h1 rfl rfl ?_
        refine fM rfl ?_
        refine Mid.elemMapC (Val.enc_eq v) rfl rfl rfl hv rfl rfl ?_
        refine fM rfl ?_
        refine Mid.call (rcopy_ok H v hvk) rfl rfl rfl rfl ?_
        refine pu rfl ?_
        refine fM rfl ?_
        refine Mid.stG (p.dn v) (x) 6 (sz := 12) rfl rfl rfl rfl rfl (by omega) (gT_length (fun _ => rfl)) (List.getElem?_set_self hxl) (by decide) rfl rfl ?_
        refine fM rfl ?_
        refine aL rfl rfl rfl rfl rfl ?_
        refine fM rfl ?_
        exact rWeak 3 rfl (ih (B.modify x fun p => p.dn v) ⟨h2, by simp [h3], mod_ok hvk h4⟩) rfl rfl rfl (he := (by repeat' (first | exact trivial | exact LeX.t | exact LeX.top | exact LeX.nilOwn (Nat.le_of_ble_eq_true rfl) (Nat.le_of_ble_eq_true rfl) | exact LeX.ownT | exact LeX.nilT | exact LeX.same rfl | exact LeX.tEq (by simp) | exact LeX.ownEq (by simp) (Nat.le_of_ble_eq_true rfl) | exact LeX.tEq (by congr 1 <;> omega) | exact Or.inr ⟨Nat.le_of_ble_eq_true rfl, Nat.le_of_ble_eq_true rfl, rfl⟩ | refine Or.inl ⟨Nat.le_of_ble_eq_true rfl, _, rfl, ?_⟩ | refine LeO.cells ?_ | exact LeO.arr rfl | exact LeO.arr (by simp) | exact LeO.mE (by first | rfl | simp) (by first | exact Or.inl rfl | exact Or.inr rfl) | exact LeO.cE (by first | rfl | simp) | exact LeXs.cE (by first | rfl | simp) | refine LeO.map (by first | rfl | simp) ?_ (by first | exact Or.inl rfl | exact Or.inr rfl) | exact LeO.iter (by first | rfl | simp) (Nat.le_of_ble_eq_true rfl) | refine LeXs.cons ?_ ?_ | exact LeXs.nil | refine And.intro ?_ ?_))) (hs := ⟨.inl ⟨Nat.le_of_ble_eq_true rfl, _, rfl, AObj.leSame rfl⟩, .inl ⟨Nat.le_of_ble_eq_true rfl, _, rfl, .groE rfl (.gE (set_mod hp) fun x => gT_bds RP.enc _ x)⟩, .inl ⟨Nat.le_of_ble_eq_true rfl, _, rfl, .arr rfl⟩, trivial⟩)
    · have e1 : rDone pl f rs = (2, pl) := by simp [rDone, he, hl]
      rw [e1]
      refine Run.condT rfl rfl (by simp; omega) ?_
      refine fR rfl ?_
      refine Run.fin rfl (EndOk.chg rfl rfl (.t rfl) (by repeat' (first | exact trivial | refine And.intro ?_ ?_ | exact Or.inr ⟨Nat.le_of_ble_eq_true rfl, Nat.le_of_ble_eq_true rfl, rfl⟩ | exact Or.inl ⟨(Nat.le_of_ble_eq_true rfl), _, rfl, AObj.leSame (by first | rfl | exact V.bds_gE (gT_bds RP.enc _) _)⟩ | exact Or.inl ⟨(Nat.le_of_ble_eq_true rfl), _, rfl, LeO.arr (by simp)⟩)))
end Go.GB.C35


/-
  L37F: chapter 35: the plain law: the reference's places and tickets of one fetch are those of its queue.
-/
namespace Go.GB.C35
open Go.GB
set_option linter.unusedSimpArgs false
set_option linter.unusedVariables false

/-- the places of a fetch -/
def vf (f : Int) (pl : List RP) : List RP := pl.filter fun p => decide (p.f = f)
/-- how many places of a fetch stand before a place -/
def rk (f : Int) (pl : List RP) (i : Nat) : Nat := (vf f (pl.take i)).length
theorem vf_cons (f : Int) (p : RP) (r : List RP) : vf f (p :: r) = if p.f = f then p :: vf f r else vf f r := by
  simp only [vf, List.filter_cons, decide_eq_true_eq]
theorem vf_append (f : Int) (a b : List RP) : vf f (a ++ b) = vf f a ++ vf f b := by simp [vf]
theorem vf_at {f : Int} : ∀ {pl : List RP} {i : Nat} {p : RP}, pl[i]? = some p → p.f = f → (vf f pl)[rk f pl i]? = some p
  | [], i, p, h, _ => by simp at h
  | x :: r, 0, p, h, hf => by
    simp at h; subst h
    simp [vf_cons, hf, rk, vf]
  | x :: r, i + 1, p, h, hf => by
    have ih := vf_at (pl := r) (i := i) (by simpa using h) hf
    simp only [rk, List.take_succ_cons, vf_cons] at ih ⊢
    split
    · simpa using ih
    · exact ih

/-- the first place of a representation, in the view -/
def fv (v : Val) (l : List RP) : Option Nat := l.findIdx? fun p => sameV p.rep v
theorem fv_cons (v : Val) (p : RP) (r : List RP) : fv v (p :: r) = if sameV p.rep v = true then some 0 else (fv v r).map (· + 1) := by
  simp only [fv, List.findIdx?_cons]
theorem fm_view {f : Int} {v : Val} : ∀ (pl : List RP) (i : Nat), (fm f v i pl = none ↔ fv v (vf f pl) = none) ∧ ∀ j, fm f v i pl = some j → fv v (vf f pl) = some (rk f pl (j - i)) ∧ ∃ p, pl[j - i]? = some p ∧ p.f = f
  | [], i => by simp [fm, fv, vf]
  | p :: r, i => by
    obtain ⟨h1, h2⟩ := fm_view (f := f) (v := v) r (i + 1)
    simp only [fm, vf_cons]
    by_cases hp : p.f = f ∧ sameV p.rep v = true
    · simp only [hp, and_self, if_true, fv_cons]
      refine ⟨by simp, fun j hj => ?_⟩
      simp at hj; subst hj
      simp [rk, vf, hp.1]
    · rw [if_neg hp]
      refine ⟨?_, fun j hj => ?_⟩
      · by_cases hf : p.f = f
        · have hs : ¬ sameV p.rep v = true := fun h => hp ⟨hf, h⟩
          rw [if_pos hf, fv_cons, if_neg hs, h1]; simp
        · rw [if_neg hf]; exact h1
      · obtain ⟨k1, p', k2, k3⟩ := h2 j hj
        have hlt := fm_lt hj
        have e : j - i = (j - (i + 1)) + 1 := by omega
        refine ⟨?_, p', by rw [e]; simpa using k2, k3⟩
        rw [e]
        simp only [rk, List.take_succ_cons, vf_cons] at k1 ⊢
        by_cases hf : p.f = f
        · have hs : ¬ sameV p.rep v = true := fun h => hp ⟨hf, h⟩
          rw [if_pos hf, if_pos hf, fv_cons, if_neg hs, k1]; simp
        · rw [if_neg hf, if_neg hf]; exact k1

/-- the open ones -/
def ov (l : List RP) : List RP := l.filter fun p => decide (p.st = 1)
theorem ov_append (a b : List RP) : ov (a ++ b) = ov a ++ ov b := by simp [ov]
theorem bIx_view {f : Int} : ∀ (r pre : List RP), (bIx f pre.length r).map (repAt (pre ++ r)) = (ov (vf f r)).map RP.rep
  | [], pre => rfl
  | p :: r, pre => by
    have ih := bIx_view (f := f) r (pre ++ [p])
    rw [List.length_append, List.length_singleton, List.append_assoc, List.singleton_append] at ih
    simp only [bIx, vf_cons]
    by_cases hp : p.f = f ∧ p.st = 1
    · rw [if_pos hp, if_pos hp.1, List.map_cons, ih]
      simp [ov, hp.2, repAt]
    · rw [if_neg hp, ih]
      by_cases hf : p.f = f
      · have hs : ¬ p.st = 1 := fun h => hp ⟨hf, h⟩
        rw [if_pos hf]; simp [ov, hs]
      · rw [if_neg hf]
theorem bIx_count {f : Int} : ∀ (r : List RP) (i : Nat), (bIx f i r).length = (ov (vf f r)).length
  | [], i => rfl
  | p :: r, i => by
    have ih := bIx_count (f := f) r (i + 1)
    simp only [bIx, vf_cons]
    by_cases hp : p.f = f ∧ p.st = 1
    · rw [if_pos hp, if_pos hp.1, List.length_cons, ih]; simp [ov, hp.2]
    · rw [if_neg hp, ih]
      by_cases hf : p.f = f
      · have hs : ¬ p.st = 1 := fun h => hp ⟨hf, h⟩
        rw [if_pos hf]; simp [ov, hs]
      · rw [if_neg hf]

/-- places made open, in the view -/
def opV (m : Int) : Nat → List RP → List RP
  | _, [] => []
  | n, p :: r => if p.st = 0 ∧ (n : Int) < m then p.op :: opV m (n + 1) r else p :: opV m n r
def opVN (m : Int) : Nat → List RP → Nat
  | n, [] => n
  | n, p :: r => if p.st = 0 ∧ (n : Int) < m then opVN m (n + 1) r else opVN m n r
theorem opn_view {m f : Int} : ∀ (pl : List RP) (n : Nat), vf f (opn m f n pl) = opV m n (vf f pl) ∧ opnN m f n pl = opVN m n (vf f pl) ∧ (∀ g, g ≠ f → vf g (opn m f n pl) = vf g pl) ∧ ∀ g i, rk g (opn m f n pl) i = rk g pl i
  | [], n => ⟨rfl, rfl, fun _ _ => rfl, fun _ _ => rfl⟩
  | p :: r, n => by
    simp only [opn, opnN, vf_cons]
    by_cases h : p.f = f ∧ p.st = 0 ∧ (n : Int) < m
    · obtain ⟨a1, a2, a3, a4⟩ := opn_view (m := m) (f := f) r (n + 1)
      rw [if_pos h, if_pos h, if_pos h.1]
      refine ⟨?_, ?_, fun g hg => ?_, fun g i => ?_⟩
      · rw [vf_cons, if_pos (by exact h.1)]; simp [opV, h.2, a1]
      · simp [opVN, h.2, a2]
      · rw [vf_cons, if_neg (show ¬ p.op.f = g from fun e => hg (e.symm.trans h.1)), if_neg (fun e => hg (e.symm.trans h.1)), a3 g hg]
      · cases i with
        | zero => rfl
        | succ i =>
          have := a4 g i
          simp only [rk, List.take_succ_cons, vf_cons] at this ⊢
          show (if p.f = g then _ else _ : List RP).length = _
          split <;> simp [this]
    · obtain ⟨a1, a2, a3, a4⟩ := opn_view (m := m) (f := f) r n
      rw [if_neg h, if_neg h]
      refine ⟨?_, ?_, fun g hg => ?_, fun g i => ?_⟩
      · rw [vf_cons]
        by_cases hf : p.f = f
        · have : ¬ (p.st = 0 ∧ (n : Int) < m) := fun e => h ⟨hf, e⟩
          rw [if_pos hf, if_pos hf]; simp [opV, this, a1]
        · rw [if_neg hf, if_neg hf]; exact a1
      · by_cases hf : p.f = f
        · have : ¬ (p.st = 0 ∧ (n : Int) < m) := fun e => h ⟨hf, e⟩
          rw [if_pos hf]; simp [opVN, this, a2]
        · rw [if_neg hf]; exact a2
      · rw [vf_cons, a3 g hg]
      · cases i with
        | zero => rfl
        | succ i =>
          have := a4 g i
          simp only [rk, List.take_succ_cons, vf_cons] at this ⊢
          split <;> simp [this]

/-- results of the open ones -/
def dnR (f : Int) : List RP → List Val → List RP
  | [], _ => []
  | p :: r, rs => if p.f = f ∧ p.st = 1 then match rs with | v :: vs => p.dn v :: dnR f r vs | [] => p :: r else p :: dnR f r rs
theorem setD_nil (pl : List RP) (rs : List Val) : setD pl [] rs = pl := by cases rs <;> rfl
theorem setD_view {f : Int} : ∀ (r pre : List RP) (rs : List Val), setD (pre ++ r) (bIx f pre.length r) rs = pre ++ dnR f r rs
  | [], pre, rs => by simp [bIx, dnR, setD_nil]
  | p :: r, pre, rs => by
    simp only [bIx, dnR]
    by_cases hp : p.f = f ∧ p.st = 1
    · rw [if_pos hp, if_pos hp]
      cases rs with
      | nil => simp [setD]
      | cons v vs =>
        have ih := setD_view (f := f) r (pre ++ [p.dn v]) vs
        rw [List.length_append, List.length_singleton, List.append_assoc, List.singleton_append] at ih
        have hm : (pre ++ p :: r).modify pre.length (fun p => p.dn v) = pre ++ p.dn v :: r := by
          apply List.ext_getElem?
          intro j
          rw [List.getElem?_modify]
          by_cases hj : j < pre.length
          · rw [List.getElem?_append_left hj, List.getElem?_append_left hj]
            have : ¬ pre.length = j := by omega
            simp [this]
          · rw [List.getElem?_append_right (by omega), List.getElem?_append_right (by omega)]
            cases hk : j - pre.length with
            | zero => have : pre.length = j := by omega
                      simp [this]
            | succ k => have : ¬ pre.length = j := by omega
                        simp [this]
        simp only [setD, hm, ih, List.append_assoc, List.singleton_append]
    · rw [if_neg hp, if_neg hp]
      have ih := setD_view (f := f) r (pre ++ [p]) rs
      rw [List.length_append, List.length_singleton, List.append_assoc, List.singleton_append] at ih
      rw [ih]; simp
def dnV : List RP → List Val → List RP
  | [], _ => []
  | p :: r, rs => if p.st = 1 then match rs with | v :: vs => p.dn v :: dnV r vs | [] => p :: r else p :: dnV r rs
theorem dnR_view {f : Int} : ∀ (pl : List RP) (rs : List Val), vf f (dnR f pl rs) = dnV (vf f pl) rs ∧ (∀ g, g ≠ f → vf g (dnR f pl rs) = vf g pl) ∧ ∀ g i, rk g (dnR f pl rs) i = rk g pl i
  | [], rs => ⟨rfl, fun _ _ => rfl, fun _ _ => rfl⟩
  | p :: r, rs => by
    simp only [dnR, vf_cons]
    by_cases h : p.f = f ∧ p.st = 1
    · rw [if_pos h, if_pos h.1]
      cases rs with
      | nil =>
        refine ⟨by simp [vf_cons, h.1, dnV, h.2], fun g hg => by rw [vf_cons], fun g i => rfl⟩
      | cons v vs =>
        obtain ⟨a1, a3, a4⟩ := dnR_view (f := f) r vs
        refine ⟨?_, fun g hg => ?_, fun g i => ?_⟩
        · simp only
          rw [vf_cons, if_pos (show (p.dn v).f = f from h.1)]; simp [dnV, h.2, a1]
        · simp only
          rw [vf_cons, if_neg (show ¬ (p.dn v).f = g from fun e => hg (e.symm.trans h.1)), if_neg (fun e => hg (e.symm.trans h.1)), a3 g hg]
        · cases i with
          | zero => rfl
          | succ i =>
            have := a4 g i
            simp only [rk, List.take_succ_cons, vf_cons] at this ⊢
            show (if p.f = g then _ else _ : List RP).length = _
            split <;> simp [this]
    · obtain ⟨a1, a3, a4⟩ := dnR_view (f := f) r rs
      rw [if_neg h]
      refine ⟨?_, fun g hg => ?_, fun g i => ?_⟩
      · rw [vf_cons]
        by_cases hf : p.f = f
        · have : ¬ p.st = 1 := fun e => h ⟨hf, e⟩
          rw [if_pos hf, if_pos hf]; simp [dnV, this, a1]
        · rw [if_neg hf, if_neg hf]; exact a1
      · rw [vf_cons, a3 g hg]
      · cases i with
        | zero => rfl
        | succ i =>
          have := a4 g i
          simp only [rk, List.take_succ_cons, vf_cons] at this ⊢
          split <;> simp [this]

/-- a fetch's tickets -/
def ltk (f : Int) (pl : List RP) (tk : List (Int × Nat)) : List Nat := (tk.filter fun t => decide (t.1 = f)).map fun t => rk f pl t.2
theorem ltk_len (f : Int) (pl : List RP) : ∀ tk : List (Int × Nat), (ltk f pl tk).length = cntT f tk
  | [] => rfl
  | t :: r => by
    have ih := ltk_len f pl r
    simp only [ltk, List.length_map] at ih
    simp only [ltk, cntT, List.length_map, List.filter_cons, decide_eq_true_eq]
    split <;> simp [ih]
theorem nth_at {f : Int} : ∀ (tk : List (Int × Nat)) (n : Int), nth f tk n = if n < 0 then none else ((tk.filter fun t => decide (t.1 = f))[n.toNat]?).map (·.2)
  | [], n => by simp [nth]
  | t :: r, n => by
    have ih := nth_at (f := f) r
    simp only [nth, List.filter_cons, decide_eq_true_eq]
    by_cases hf : t.1 = f
    · rw [if_pos hf, if_pos hf]
      by_cases h0 : n = 0
      · subst h0; simp
      · rw [if_neg h0, ih]
        by_cases hn : n < 0
        · rw [if_pos hn, if_pos (by omega)]
        · rw [if_neg hn, if_neg (by omega)]
          have : n.toNat = (n - 1).toNat + 1 := by omega
          rw [this]; simp
    · rw [if_neg hf, if_neg hf, ih]
end Go.GB.C35

