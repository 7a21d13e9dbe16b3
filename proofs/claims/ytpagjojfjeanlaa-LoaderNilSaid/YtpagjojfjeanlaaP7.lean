/-
  YtpagjojfjeanlaaP7: lemmas of this proof (part 7). No conditions.
-/
import Derived.Test.YtpagjojfjeanlaaP6
import Derived.Test.YtpagjojfjeanlaaP4

/-
  L35L: chapter 35: the results of tickets; counts.
-/
namespace Go.GB.C35
open Go.GB
set_option linter.unusedSimpArgs false
set_option linter.unusedVariables false
set_option maxRecDepth 100000
set_option maxHeartbeats 8000000
variable {P : Program}
theorem take_ok (H : Pr P) (m c s f nx : Int) (tk : List Int) (ps : List Pl) (op es : List (List T × V)) (n a : Nat) (p : Pl) (htk : tk[n]? = some (a : Int)) (hp : ps[a]? = some p) (hpk : p.Ok) (hpl : ps.length < 1000000) (htl : tk.length < 1000000) (hk : keysOk [.int .i64] es = true) (hg : mget [.int .i64 f] es = some (.ptr 4 0)) (hb : ∀ k, 9 ≤ k → V.bds k (es.map (·.2)) = true) (hob : ∀ k, 9 ≤ k → V.bds k (op.map (·.2)) = true) : FnOk P 19 [.ptr 1 0, .t (.int .i64 f), .t (.int .i64 n)] ⟨[(0, .map false es none), (1, .cells [.t (.int .i64 m), .mp 0, .t (.int .i64 c), .t (.int .i64 s)]), (3, .map false op none), (4, .cells [.own 8 1 (tk.map nE), .gsl 7 (pl ps).length 0 (pl ps).length 1, .t (.int .i64 nx), .mp 3]), (5, .fobs (ps.map Pl.cs)), (7, .gro (pl ps).length (gE (pE 5) (pl ps))), (8, .arr tk.length)], 9⟩ { v := .tup [(if p.ld then p.res else Val.zero).v, .t (.bool p.ld)], rd := true } := by
  have hsa : stoBd 9 [(0, .map false es none), (1, .cells [.t (.int .i64 m), .mp 0, .t (.int .i64 c), .t (.int .i64 s)]), (3, .map false op none), (4, .cells [.own 8 1 (tk.map nE), .gsl 7 (pl ps).length 0 (pl ps).length 1, .t (.int .i64 nx), .mp 3]), (5, .fobs (ps.map Pl.cs)), (7, .gro (pl ps).length (gE (pE 5) (pl ps))), (8, .arr tk.length)] = true := (by repeat' (first | exact (rfl : stoBd _ [] = true) | refine stoBd_cons (Nat.le_of_ble_eq_true rfl) ?_ ?_ | exact (by first | rfl | exact hb _ (Nat.le_of_ble_eq_true rfl) | exact hob _ (Nat.le_of_ble_eq_true rfl) | (refine open_bd ?_ _ _; exact Nat.le_of_ble_eq_true rfl) | exact pls_bd _ _ | (refine gE_bd ?_ _; exact Nat.le_of_ble_eq_true rfl))))
  have hsb : stoBd 10 [(0, .map false es none), (1, .cells [.t (.int .i64 m), .mp 0, .t (.int .i64 c), .t (.int .i64 s)]), (3, .map false op none), (4, .cells [.own 8 1 (tk.map nE), .gsl 7 (pl ps).length 0 (pl ps).length 1, .t (.int .i64 nx), .mp 3]), (5, .fobs (ps.map Pl.cs)), (7, .gro (pl ps).length (gE (pE 5) (pl ps))), (8, .arr tk.length), (9, .cells [.t (.int .i64 0), .t (.int .i64 0), .t (.str []), .nils, .nils])] = true := (by repeat' (first | exact (rfl : stoBd _ [] = true) | refine stoBd_cons (Nat.le_of_ble_eq_true rfl) ?_ ?_ | exact (by first | rfl | exact hb _ (Nat.le_of_ble_eq_true rfl) | exact hob _ (Nat.le_of_ble_eq_true rfl) | (refine open_bd ?_ _ _; exact Nat.le_of_ble_eq_true rfl) | exact pls_bd _ _ | (refine gE_bd ?_ _; exact Nat.le_of_ble_eq_true rfl))))
  have hn : n < tk.length := (List.getElem?_eq_some_iff.1 htk).1
  have ha : a < (pl ps).length := by rw [pl_length]; exact (List.getElem?_eq_some_iff.1 hp).1
  have hpos : 0 < (pl ps).length := by omega
  have hpc : (ps.map Pl.cs)[a]? = some p.cs := by simp [hp]
  refine FnOk.run H.i19 H.mixed rfl rfl ?_
  refine fR rfl ?_
  refine Mid.callS (none_gb H m c s _ _ hsb) rfl rfl hsb rfl ?_
  refine fM rfl ?_
  refine Mid.lookVG (.ptr 4 0) rfl rfl rfl rfl rfl (hk) (by rw [hg]; rfl) (by (repeat' (first | exact trivial | exact Bool.not_or_self _ | exact grd1 _ | exact grd2 _ | exact grd3 _ _ | exact grd4 _ _ | refine And.intro ?_ ?_ | exact rfl | (simp; done) | (simp <;> omega))); done) (by (repeat' (first | exact trivial | exact Bool.not_or_self _ | exact grd1 _ | exact grd2 _ | exact grd3 _ _ | exact grd4 _ _ | refine And.intro ?_ ?_ | exact rfl | (simp; done) | (simp <;> omega))); done) rfl ?_
  refine fM rfl ?_
  refine Mid.lookVG (.ptr 4 0) rfl rfl rfl rfl rfl (hk) (by rw [hg]; rfl) (by (repeat' (first | exact trivial | exact Bool.not_or_self _ | exact grd1 _ | exact grd2 _ | exact grd3 _ _ | exact grd4 _ _ | refine And.intro ?_ ?_ | exact rfl | (simp; done) | (simp <;> omega))); done) (by (repeat' (first | exact trivial | exact Bool.not_or_self _ | exact grd1 _ | exact grd2 _ | exact grd3 _ _ | exact grd4 _ _ | refine And.intro ?_ ?_ | exact rfl | (simp; done) | (simp <;> omega))); done) rfl ?_
  refine fM rfl ?_
  refine lMG rfl rfl rfl rfl ?_
  refine fM rfl ?_
  refine Run.condF rfl rfl (by simp; omega) ?_
  refine fR rfl ?_
  refine Mid.lookV (.ptr 4 0) rfl rfl rfl rfl (hk) (by rw [hg]; rfl) rfl ?_
  refine fM rfl ?_
  refine Mid.elemMap rfl rfl rfl htk rfl rfl ?_
  refine fM rfl ?_
  refine pu rfl ?_
  refine Mid.ldG (a) 0 (sz := 1) rfl rfl (by omega) (by omega) (fun _ => rfl) (pl_some (by rw [pl_length] at ha; exact ha)) rfl rfl ?_
  refine p0 rfl ?_
  refine Mid.fast (f := 1) rfl (by (repeat' (first | exact trivial | exact Bool.not_or_self _ | exact grd1 _ | exact grd2 _ | exact grd3 _ _ | exact grd4 _ _ | refine And.intro ?_ ?_ | exact rfl | (simp; done) | (simp <;> omega))); done) ?_
  refine Run.fast (f := 4) rfl (by (repeat' (first | exact trivial | exact Bool.not_or_self _ | exact grd1 _ | exact grd2 _ | exact grd3 _ _ | exact grd4 _ _ | refine And.intro ?_ ?_ | exact rfl | (simp; done) | (simp <;> omega))); done) ?_
  cases hld : p.ld with
  | false =>
    refine Mid.ldF (cs := p.cs) (.t (.bool false)) rfl rfl hpc (by simp [Pl.cs, hld]) rfl ?_
    refine fM rfl ?_
    refine Run.condT rfl rfl rfl ?_
    refine fR rfl ?_
    refine Run.fin rfl (EndOk.sameX rfl rfl rfl hsa ?_)
    exact .tup (.cons zeroR (.cons (.t rfl) .nil))
  | true =>
    refine Mid.ldF (cs := p.cs) (.t (.bool true)) rfl rfl hpc (by simp [Pl.cs, hld]) rfl ?_
    refine fM rfl ?_
    refine Run.condF rfl rfl rfl ?_
    refine Run.fast (f := 4) rfl (by (repeat' (first | exact trivial | exact Bool.not_or_self _ | exact grd1 _ | exact grd2 _ | exact grd3 _ _ | exact grd4 _ _ | refine And.intro ?_ ?_ | exact rfl | (simp; done) | (simp <;> omega))); done) ?_
    refine Mid.ldFA (cs := p.cs) rfl rfl hpc (by simp [Pl.cs]) rfl rfl ?_
    skip
    refine Mid.call (copy_ok H p.res hpk.s) rfl rfl rfl rfl ?_
    refine fM rfl ?_
    refine Run.fin rfl (EndOk.sameX rfl rfl rfl hsa ?_)
    exact .tup (.cons (.le (.same rfl)) (.cons (.t rfl) .nil))
theorem calls_ok (H : Pr P) (m c s : Int) (o : AObj) (r : List (Nat × AObj)) (hb : stoBd 9 ((0, o) :: (1, .cells [.t (.int .i64 m), .mp 0, .t (.int .i64 c), .t (.int .i64 s)]) :: r) = true) : FnOk P 12 [.ptr 1 0] ⟨(0, o) :: (1, .cells [.t (.int .i64 m), .mp 0, .t (.int .i64 c), .t (.int .i64 s)]) :: r, 9⟩ { v := .t (.int .i64 c), rd := true } := by
  refine FnOk.run H.i12 H.mixed rfl rfl ?_
  refine fR rfl ?_
  refine Mid.callS (none_ga H m c s _ _ hb) rfl rfl hb rfl ?_
  refine fM rfl ?_
  refine Run.condF rfl rfl rfl ?_
  refine fR rfl ?_
  refine Run.fin rfl (EndOk.sameX rfl (List.append_nil _).symm rfl hb (.t rfl))
theorem saved_ok (H : Pr P) (m c s : Int) (o : AObj) (r : List (Nat × AObj)) (hb : stoBd 9 ((0, o) :: (1, .cells [.t (.int .i64 m), .mp 0, .t (.int .i64 c), .t (.int .i64 s)]) :: r) = true) : FnOk P 14 [.ptr 1 0] ⟨(0, o) :: (1, .cells [.t (.int .i64 m), .mp 0, .t (.int .i64 c), .t (.int .i64 s)]) :: r, 9⟩ { v := .t (.int .i64 s), rd := true } := by
  refine FnOk.run H.i14 H.mixed rfl rfl ?_
  refine fR rfl ?_
  refine Mid.callS (none_ga H m c s _ _ hb) rfl rfl hb rfl ?_
  refine fM rfl ?_
  refine Run.condF rfl rfl rfl ?_
  refine fR rfl ?_
  refine Run.fin rfl (EndOk.sameX rfl (List.append_nil _).symm rfl hb (.t rfl))
end Go.GB.C35


/-
  L35M: chapter 35: the chapter's examples.
-/
namespace Go.GB.C35
open Go.GB
set_option linter.unusedSimpArgs false
set_option linter.unusedVariables false
set_option maxRecDepth 100000
set_option maxHeartbeats 16000000
variable {P : Program}
theorem renOb_cons {ρ : Nat → Nat} {k k' : Nat} {o o' : AObj} {r r' : List (Nat × AObj)} (h1 : ρ k = k') (h2 : o.ren ρ = o') (h3 : renOb ρ r = r') : renOb ρ ((k, o) :: r) = (k', o') :: r' := by
  simp [renOb, h1, h2, h3]
theorem ren_pls (ρ : Nat → Nat) (ps : List Pl) : (AObj.fobs (ps.map Pl.cs)).ren ρ = .fobs (ps.map Pl.cs) := by
  simp only [AObj.ren, List.map_map]
  congr 1
theorem ren_open {ρ : Nat → Nat} {F F' : Nat} (h : ρ F = F') (nx n : Nat) (st : Option (Nat × List Nat)) : (AObj.map false (openE F nx n) st).ren ρ = .map false (openE F' nx n) st := by
  subst h
  simp only [AObj.ren, openE, List.map_map]
  congr 1
theorem mkI_k (n : Int) : (mkI n).Ok := .mk (by decide) (by decide) (by simp [mkI, Val.items]) (by simp [mkI, Val.keys]) (by simp [mkI, Val.text])
theorem mkT_k (s : Str) (h : s.length ≤ 140737488355328) : (mkT s).Ok := .mk (by simp [mkT, Val.items]) (by simp [mkT, Val.keys]) (by simp [mkT, Val.items]) (by simp [mkT, Val.text, h]) (by simp [mkT, Val.keys])
def kA : List Pl := [⟨mkI 7, Val.zero, false⟩]
def kB : List Pl := [⟨mkI 7, Val.zero, false⟩, ⟨mkT [98], Val.zero, false⟩]
def kC : List Pl := [⟨mkI 7, mkI 1, true⟩, ⟨mkT [98], mkI 2, true⟩]
theorem k_ne : sameV (mkI 7) (mkT [98]) = false := by
  simp [sameV, cmpV_eq, mkI, mkT, Val.kind, cmpI]
theorem fnd_b : fnd kA (mkT [98]) = none := by simp [fnd, kA, k_ne]
theorem fnd_a : fnd kB (mkI 7) = some 0 := by simp [fnd_cons, kB, sameV_refl]
theorem kB_ok : ∀ p, p ∈ kB → p.Ok := by
  intro p hp
  simp [kB] at hp
  rcases hp with rfl | rfl
  · exact ⟨mkI_k 7, Val.zero_ok⟩
  · exact ⟨mkT_k _ (by decide), Val.zero_ok⟩
theorem knows_ok (H : Pr P) : FnOk P 10 [] ⟨[], 0⟩ { v := .t (.bool true) } := by
  have h2 := add_ok H 2 0 0 0 0 [0] kA [] [([.int .i64 (0 : Int)], .ptr 4 0)] (by decide) (mkT [98]) (mkT_k _ (by decide)) (by decide) (by decide) (by decide) (fun p hp => kB_ok p (by simp [kA] at hp; simp [kB, hp])) rfl rfl (fun m h => by simp [V.bds, V.bd]; omega) (fun _ _ => rfl)
  rw [show addS kA (mkT [98]) = 0 by simp [addS, fnd_b], show addAt kA (mkT [98]) = 1 by rw [addAt, fnd_b]; rfl, show addPs kA (mkT [98]) = kB by simp [addPs, fnd_b]; rfl] at h2
  have h3 := add_ok H 2 0 0 0 0 [0, 1] kB [] [([.int .i64 (0 : Int)], .ptr 4 0)] (by decide) (mkI 7) (mkI_k _) (by decide) (by decide) (by decide) kB_ok rfl rfl (fun m h => by simp [V.bds, V.bd]; omega) (fun _ _ => rfl)
  rw [show addS kB (mkI 7) = 1 by simp [addS, fnd_a], show addAt kB (mkI 7) = 0 by simp [addAt, fnd_a], show addPs kB (mkI 7) = kB by simp [addPs, fnd_a]] at h3
  have h4 := next_ok H 2 0 1 0 0 [0, 1, 0] kB [([.int .i64 (0 : Int)], .ptr 4 0)] (by decide) (by decide) (by decide) (by decide) kB_ok rfl rfl (fun m h => by simp [V.bds, V.bd]; omega)
  have h5 := done_ok H 2 1 1 0 2 0 [0, 1, 0] kB [mkI 1, mkI 2] [([.int .i64 (0 : Int)], .ptr 4 0)] (by decide) (by intro v hv; simp at hv; rcases hv with rfl | rfl <;> exact mkI_k _) (by decide) (by decide) (by decide) kB_ok rfl rfl (fun m h => by simp [V.bds, V.bd]; omega)
  have h6 := take_ok H 2 1 1 0 2 [0, 1, 0] kC [] [([.int .i64 (0 : Int)], .ptr 4 0)] 2 0 ⟨mkI 7, mkI 1, true⟩ rfl rfl ⟨mkI_k 7, mkI_k 1⟩ (by decide) (by decide) rfl rfl (fun m h => by simp [V.bds, V.bd]; omega) (fun _ _ => rfl)
  have h7 := calls_ok H 2 1 1 (.map false [([.int .i64 (0 : Int)], .ptr 4 0)] none) [(3, .map false [] none), (4, .cells [.own 8 1 ([(0 : Int), 1, 0].map nE), .gsl 7 (pl kC).length 0 (pl kC).length 1, .t (.int .i64 2), .mp 3]), (5, .fobs (kC.map Pl.cs)), (7, .gro (pl kC).length (gE (pE 5) (pl kC))), (8, .arr [(0 : Int), 1, 0].length)] (by repeat' (first | exact (rfl : stoBd _ [] = true) | refine stoBd_cons (Nat.le_of_ble_eq_true rfl) ?_ ?_ | exact (by first | rfl | (refine open_bd ?_ _ _; exact Nat.le_of_ble_eq_true rfl) | exact pls_bd _ _ | (refine gE_bd ?_ _; exact Nat.le_of_ble_eq_true rfl))))
  have h8 := saved_ok H 2 1 1 (.map false [([.int .i64 (0 : Int)], .ptr 4 0)] none) [(3, .map false [] none), (4, .cells [.own 8 1 ([(0 : Int), 1, 0].map nE), .gsl 7 (pl kC).length 0 (pl kC).length 1, .t (.int .i64 2), .mp 3]), (5, .fobs (kC.map Pl.cs)), (7, .gro (pl kC).length (gE (pE 5) (pl kC))), (8, .arr [(0 : Int), 1, 0].length)] (by repeat' (first | exact (rfl : stoBd _ [] = true) | refine stoBd_cons (Nat.le_of_ble_eq_true rfl) ?_ ?_ | exact (by first | rfl | (refine open_bd ?_ _ _; exact Nat.le_of_ble_eq_true rfl) | exact pls_bd _ _ | (refine gE_bd ?_ _; exact Nat.le_of_ble_eq_true rfl))))
  have hs := same_ok H [mkI 7, mkT [98]] [mkI 7, mkT [98]] (by decide) (by decide) (by intro x hx; simp at hx; rcases hx with rfl | rfl; exact mkI_k _; exact mkT_k _ (by decide)) (by intro x hx; simp at hx; rcases hx with rfl | rfl; exact mkI_k _; exact mkT_k _ (by decide))
  rw [show sameL [mkI 7, mkT [98]] [mkI 7, mkT [98]] = true by simp [sameL, sameV_refl]] at hs
  refine FnOk.run H.i10 H.mixed rfl rfl ?_
  refine fR rfl ?_
  refine Mid.callR [] (new_ok H 2 (by decide) (by decide)) rfl rfl rfl rfl (by repeat' (first | exact (rfl : stoBd _ [] = true) | refine stoBd_cons (Nat.le_of_ble_eq_true rfl) ?_ ?_ | exact (by first | rfl | (refine open_bd ?_ _ _; exact Nat.le_of_ble_eq_true rfl) | exact pls_bd _ _ | (refine gE_bd ?_ _; exact Nat.le_of_ble_eq_true rfl)))) (by repeat' (first | exact trivial | refine And.intro ?_ ?_ | exact rfl | exact (congrArg some (ren_pls _ _)).symm | exact (congrArg some (ren_open rfl _ _ _)).symm | exact (congrArg some (AObj.ren_gE (fun _ => rfl) _ _)).symm)) rfl (v' := .tup [.ptr 1 0, .t (.int .i64 0)]) rfl (ob' := [(0, .map false [] (some (0, []))), (1, .cells [.t (.int .i64 2), .mp 0, .t (.int .i64 0), .t (.int .i64 0)])]) (by repeat' (first | exact (rfl : renOb _ [] = []) | refine renOb_cons rfl ?_ ?_ | exact rfl | exact ren_pls _ _ | exact ren_open rfl _ _ _ | exact AObj.ren_gE (fun _ => rfl) _ _)) rfl rfl ?_
  refine fM rfl ?_
  refine Mid.call (mkI_ok H 7) rfl rfl rfl rfl ?_
  skip
  refine Mid.call (mkT_ok H [98]) rfl rfl rfl rfl ?_
  refine fM rfl ?_
  refine Run.condF rfl rfl rfl ?_
  refine fR rfl ?_
  refine Mid.callR [0, 1] (add_first H 2 0 0 0 (by decide) (mkI 7) (mkI_k 7) _) rfl rfl rfl rfl (by repeat' (first | exact (rfl : stoBd _ [] = true) | refine stoBd_cons (Nat.le_of_ble_eq_true rfl) ?_ ?_ | exact (by first | rfl | (refine open_bd ?_ _ _; exact Nat.le_of_ble_eq_true rfl) | exact pls_bd _ _ | (refine gE_bd ?_ _; exact Nat.le_of_ble_eq_true rfl)))) (by repeat' (first | exact trivial | refine And.intro ?_ ?_ | exact rfl | exact (congrArg some (ren_pls _ _)).symm | exact (congrArg some (ren_open rfl _ _ _)).symm | exact (congrArg some (AObj.ren_gE (fun _ => rfl) _ _)).symm)) rfl (v' := .tup [.t (.int .i64 0), .t (.int .i64 0)]) rfl (ob' := [(0, .map false [([.int .i64 0], .ptr 6 0)] none), (5, .map false [] none), (6, .cells [.own 10 1 ([(0 : Int)].map nE), .gsl 9 (pl kA).length 0 (pl kA).length 1, .t (.int .i64 0), .mp 5]), (7, .fobs (kA.map Pl.cs)), (9, .gro (pl kA).length (gE (pE 7) (pl kA))), (10, .arr [(0 : Int)].length)]) (by repeat' (first | exact (rfl : renOb _ [] = []) | refine renOb_cons rfl ?_ ?_ | exact rfl | exact ren_pls _ _ | exact ren_open rfl _ _ _ | exact AObj.ren_gE (fun _ => rfl) _ _)) rfl rfl ?_
  refine fM rfl ?_
  refine Mid.callR [0, 1, 4, 5, 6, 7, 8, 9, 10] (h2) rfl rfl rfl rfl (by repeat' (first | exact (rfl : stoBd _ [] = true) | refine stoBd_cons (Nat.le_of_ble_eq_true rfl) ?_ ?_ | exact (by first | rfl | (refine open_bd ?_ _ _; exact Nat.le_of_ble_eq_true rfl) | exact pls_bd _ _ | (refine gE_bd ?_ _; exact Nat.le_of_ble_eq_true rfl)))) (by repeat' (first | exact trivial | refine And.intro ?_ ?_ | exact rfl | exact (congrArg some (ren_pls _ _)).symm | exact (congrArg some (ren_open rfl _ _ _)).symm | exact (congrArg some (AObj.ren_gE (fun _ => rfl) _ _)).symm)) rfl (v' := .tup [.t (.int .i64 1), .t (.int .i64 0)]) rfl (ob' := [(1, .cells [.t (.int .i64 2), .mp 0, .t (.int .i64 0), .t (.int .i64 0)]), (6, .cells [.own 10 1 ([(0 : Int), 1].map nE), .gsl 9 (pl kB).length 0 (pl kB).length 1, .t (.int .i64 0), .mp 5]), (7, .fobs (kB.map Pl.cs)), (9, .gro (pl kB).length (gE (pE 7) (pl kB))), (10, .arr [(0 : Int), 1].length)]) (by repeat' (first | exact (rfl : renOb _ [] = []) | refine renOb_cons rfl ?_ ?_ | exact rfl | exact ren_pls _ _ | exact ren_open rfl _ _ _ | exact AObj.ren_gE (fun _ => rfl) _ _)) rfl rfl ?_
  refine fM rfl ?_
  refine Mid.callR [0, 1, 4, 5, 6, 7, 8, 9, 10] (h3) rfl rfl rfl rfl (by repeat' (first | exact (rfl : stoBd _ [] = true) | refine stoBd_cons (Nat.le_of_ble_eq_true rfl) ?_ ?_ | exact (by first | rfl | (refine open_bd ?_ _ _; exact Nat.le_of_ble_eq_true rfl) | exact pls_bd _ _ | (refine gE_bd ?_ _; exact Nat.le_of_ble_eq_true rfl)))) (by repeat' (first | exact trivial | refine And.intro ?_ ?_ | exact rfl | exact (congrArg some (ren_pls _ _)).symm | exact (congrArg some (ren_open rfl _ _ _)).symm | exact (congrArg some (AObj.ren_gE (fun _ => rfl) _ _)).symm)) rfl (v' := .tup [.t (.int .i64 2), .t (.int .i64 0)]) rfl (ob' := [(1, .cells [.t (.int .i64 2), .mp 0, .t (.int .i64 0), .t (.int .i64 1)]), (6, .cells [.own 10 1 ([(0 : Int), 1, 0].map nE), .gsl 9 (pl kB).length 0 (pl kB).length 1, .t (.int .i64 0), .mp 5]), (7, .fobs (kB.map Pl.cs)), (9, .gro (pl kB).length (gE (pE 7) (pl kB))), (10, .arr [(0 : Int), 1, 0].length)]) (by repeat' (first | exact (rfl : renOb _ [] = []) | refine renOb_cons rfl ?_ ?_ | exact rfl | exact ren_pls _ _ | exact ren_open rfl _ _ _ | exact AObj.ren_gE (fun _ => rfl) _ _)) rfl rfl ?_
  refine fM rfl ?_
  refine Mid.callR [0, 1, 4, 5, 6, 7, 8, 9, 10] (h4) rfl rfl rfl rfl (by repeat' (first | exact (rfl : stoBd _ [] = true) | refine stoBd_cons (Nat.le_of_ble_eq_true rfl) ?_ ?_ | exact (by first | rfl | (refine open_bd ?_ _ _; exact Nat.le_of_ble_eq_true rfl) | exact pls_bd _ _ | (refine gE_bd ?_ _; exact Nat.le_of_ble_eq_true rfl)))) (by repeat' (first | exact trivial | refine And.intro ?_ ?_ | exact rfl | exact (congrArg some (ren_pls _ _)).symm | exact (congrArg some (ren_open rfl _ _ _)).symm | exact (congrArg some (AObj.ren_gE (fun _ => rfl) _ _)).symm)) rfl (v' := .tup [.t (.lst ([mkI 7, mkT [98]].map Val.enc)), .t (.bool true)]) rfl (ob' := [(1, .cells [.t (.int .i64 2), .mp 0, .t (.int .i64 1), .t (.int .i64 1)]), (5, .map false (openE 7 0 2) none), (6, .cells [.own 10 1 ([(0 : Int), 1, 0].map nE), .gsl 9 (pl kB).length 0 (pl kB).length 1, .t (.int .i64 2), .mp 5])]) (by repeat' (first | exact (rfl : renOb _ [] = []) | refine renOb_cons rfl ?_ ?_ | exact rfl | exact ren_pls _ _ | exact ren_open rfl _ _ _ | exact AObj.ren_gE (fun _ => rfl) _ _)) rfl rfl ?_
  refine fM rfl ?_
  refine Mid.call (mkI_ok H 1) rfl rfl rfl rfl ?_
  skip
  refine Mid.call (mkI_ok H 2) rfl rfl rfl rfl ?_
  refine fM rfl ?_
  refine Mid.callR [0, 1, 4, 5, 6, 7, 8, 9, 10] (h5) rfl rfl rfl rfl (by repeat' (first | exact (rfl : stoBd _ [] = true) | refine stoBd_cons (Nat.le_of_ble_eq_true rfl) ?_ ?_ | exact (by first | rfl | (refine open_bd ?_ _ _; exact Nat.le_of_ble_eq_true rfl) | exact pls_bd _ _ | (refine gE_bd ?_ _; exact Nat.le_of_ble_eq_true rfl)))) (by repeat' (first | exact trivial | refine And.intro ?_ ?_ | exact rfl | exact (congrArg some (ren_pls _ _)).symm | exact (congrArg some (ren_open rfl _ _ _)).symm | exact (congrArg some (AObj.ren_gE (fun _ => rfl) _ _)).symm)) rfl (v' := .t (.int .i64 0)) rfl (ob' := [(5, .map false [] none), (6, .cells [.own 10 1 ([(0 : Int), 1, 0].map nE), .gsl 9 (pl kC).length 0 (pl kC).length 1, .t (.int .i64 2), .mp 5]), (7, .fobs (kC.map Pl.cs)), (9, .gro (pl kC).length (gE (pE 7) (pl kC)))]) (by repeat' (first | exact (rfl : renOb _ [] = []) | refine renOb_cons rfl ?_ ?_ | exact rfl | exact ren_pls _ _ | exact ren_open rfl _ _ _ | exact AObj.ren_gE (fun _ => rfl) _ _)) rfl rfl ?_
  refine fM rfl ?_
  refine Mid.callR [0, 1, 4, 5, 6, 7, 8, 9, 10] (h6) rfl rfl rfl rfl (by repeat' (first | exact (rfl : stoBd _ [] = true) | refine stoBd_cons (Nat.le_of_ble_eq_true rfl) ?_ ?_ | exact (by first | rfl | (refine open_bd ?_ _ _; exact Nat.le_of_ble_eq_true rfl) | exact pls_bd _ _ | (refine gE_bd ?_ _; exact Nat.le_of_ble_eq_true rfl)))) (by repeat' (first | exact trivial | refine And.intro ?_ ?_ | exact rfl | exact (congrArg some (ren_pls _ _)).symm | exact (congrArg some (ren_open rfl _ _ _)).symm | exact (congrArg some (AObj.ren_gE (fun _ => rfl) _ _)).symm)) rfl (v' := .tup [(mkI 1).v, .t (.bool true)]) rfl (ob' := []) (by repeat' (first | exact (rfl : renOb _ [] = []) | refine renOb_cons rfl ?_ ?_ | exact rfl | exact ren_pls _ _ | exact ren_open rfl _ _ _ | exact AObj.ren_gE (fun _ => rfl) _ _)) rfl rfl ?_
  refine fM rfl ?_
  refine Mid.ungd rfl rfl rfl ?_
  refine fM rfl ?_
  refine caG rfl rfl (fun hg => ⟨_, rfl, hs, rfl⟩) rfl rfl ?_
  refine fM rfl ?_
  refine Mid.ungd rfl rfl rfl ?_
  refine Mid.callR [0, 1, 4, 5, 6, 7, 8, 9, 10] (h7) rfl rfl rfl rfl (by repeat' (first | exact (rfl : stoBd _ [] = true) | refine stoBd_cons (Nat.le_of_ble_eq_true rfl) ?_ ?_ | exact (by first | rfl | (refine open_bd ?_ _ _; exact Nat.le_of_ble_eq_true rfl) | exact pls_bd _ _ | (refine gE_bd ?_ _; exact Nat.le_of_ble_eq_true rfl)))) (by repeat' (first | exact trivial | refine And.intro ?_ ?_ | exact rfl | exact (congrArg some (ren_pls _ _)).symm | exact (congrArg some (ren_open rfl _ _ _)).symm | exact (congrArg some (AObj.ren_gE (fun _ => rfl) _ _)).symm)) rfl (v' := .t (.int .i64 1)) rfl (ob' := []) (by repeat' (first | exact (rfl : renOb _ [] = []) | refine renOb_cons rfl ?_ ?_ | exact rfl | exact ren_pls _ _ | exact ren_open rfl _ _ _ | exact AObj.ren_gE (fun _ => rfl) _ _)) rfl rfl ?_
  refine fM rfl ?_
  refine Mid.ungd rfl rfl rfl ?_
  refine Mid.callR [0, 1, 4, 5, 6, 7, 8, 9, 10] (h8) rfl rfl rfl rfl (by repeat' (first | exact (rfl : stoBd _ [] = true) | refine stoBd_cons (Nat.le_of_ble_eq_true rfl) ?_ ?_ | exact (by first | rfl | (refine open_bd ?_ _ _; exact Nat.le_of_ble_eq_true rfl) | exact pls_bd _ _ | (refine gE_bd ?_ _; exact Nat.le_of_ble_eq_true rfl)))) (by repeat' (first | exact trivial | refine And.intro ?_ ?_ | exact rfl | exact (congrArg some (ren_pls _ _)).symm | exact (congrArg some (ren_open rfl _ _ _)).symm | exact (congrArg some (AObj.ren_gE (fun _ => rfl) _ _)).symm)) rfl (v' := .t (.int .i64 1)) rfl (ob' := []) (by repeat' (first | exact (rfl : renOb _ [] = []) | refine renOb_cons rfl ?_ ?_ | exact rfl | exact ren_pls _ _ | exact ren_open rfl _ _ _ | exact AObj.ren_gE (fun _ => rfl) _ _)) rfl rfl ?_
  refine fM rfl ?_
  refine Run.fin rfl (EndOk.go ?_); exact .t rfl
end Go.GB.C35


/-
  L35N: chapter 35: shapes of the laws' arguments.
-/
namespace Go.GB.C35
open Go.GB
set_option linter.unusedSimpArgs false
set_option linter.unusedVariables false
theorem spV_ok {P : Program} {vt : TypeId} (hb : P.bytesOf vt = 80) (hs : shOf P (spV vt) 6 vt = some valSh) :
    ∀ e i n xs, spV vt e = some i → xs.length * P.bytesOf e ≤ reachBytes → xs.length ≤ maxLen → (∀ c ∈ xs, WT P n e c) → YA i (.lst xs) := by
  have hv := val_wt hb hs
  intro e i k xs he hr hl hc
  have := reach_le
  unfold spV at he
  split at he
  · rename_i e1; subst e1
    simp only [Option.some.injEq] at he; subst he
    obtain ⟨l, rfl, h3⟩ := choose_map (f := Val.enc) (Q := Val.Ok) xs fun c hcm => hv k c (hc c hcm)
    rw [hb] at hr
    exact ⟨l, rfl, by unfold B47; simp at hr; omega, h3⟩
  · cases he
theorem val_0 {c : List T} (h : Sh.oks YA valSh c) : ∃ v : Val, c = v.cs ∧ v.Ok := by
  obtain ⟨v, rfl, h1⟩ := val_sh0 h
  exact ⟨v, Val.enc_eq v, h1⟩
theorem int_0 {c : List T} (h : Sh.oks YA [.int .i64] c) : ∃ n : Int, c = [.int .i64 n] ∧ -9223372036854775808 ≤ n ∧ n ≤ 9223372036854775807 := by
  obtain ⟨x, c, rfl, ⟨n, rfl, hw⟩, g1⟩ := Sh.oks_cons h
  obtain rfl := Sh.oks_nil g1
  refine ⟨n, rfl, ?_⟩
  have h1 : IntKind.i64.min = -9223372036854775808 := by decide
  have h2 : IntKind.i64.max = 9223372036854775807 := by decide
  simp [Lit.wf, h1, h2] at hw
  omega
end Go.GB.C35

