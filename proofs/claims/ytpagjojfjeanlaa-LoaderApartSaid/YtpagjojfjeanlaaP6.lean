/-
  YtpagjojfjeanlaaP6: lemmas of this proof (part 6). No conditions.
-/
import Derived.Test.YtpagjojfjeanlaaP5

/-
  L35L: chapter 35: the results of tickets; counts.
-/
namespace Go.GB.C35
open Go.GB
set_option linter.unusedSimpArgs false
set_option linter.unusedVariables false
set_option maxRecDepth 100000
set_option maxHeartbeats 8000000
variable {P : Program}
theorem take_ok (H : Pr P) (m c s f nx : Int) (tk : List Int) (ps : List Pl) (op es : List (List T × V)) (n a : Nat) (p : Pl) (htk : tk[n]? = some (a : Int)) (hp : ps[a]? = some p) (hpk : p.Ok) (hpl : ps.length < 1000000) (htl : tk.length < 1000000) (hk : keysOk [.int .i64] es = true) (hg : mget [.int .i64 f] es = some (.ptr 4 0)) (hb : ∀ k, 9 ≤ k → V.bds k (es.map (·.2)) = true) (hob : ∀ k, 9 ≤ k → V.bds k (op.map (·.2)) = true) : FnOk P 19 [.ptr 1 0, .t (.int .i64 f), .t (.int .i64 n)] ⟨[(0, .map false es none), (1, .cells [.t (.int .i64 m), .mp 0, .t (.int .i64 c), .t (.int .i64 s)]), (3, .map false op none), (4, .cells [.own 8 1 (tk.map nE), .gsl 7 (pl ps).length 0 (pl ps).length 1, .t (.int .i64 nx), .mp 3]), (5, .fobs (ps.map Pl.cs)), (7, .gro (pl ps).length (gE (pE 5) (pl ps))), (8, .arr tk.length)], 9⟩ { v := .tup [(if p.ld then p.res else Val.zero).v, .t (.bool p.ld)], rd := true } := by
  have hsa : stoBd 9 [(0, .map false es none), (1, .cells [.t (.int .i64 m), .mp 0, .t (.int .i64 c), .t (.int .i64 s)]), (3, .map false op none), (4, .cells [.own 8 1 (tk.map nE), .gsl 7 (pl ps).length 0 (pl ps).length 1, .t (.int .i64 nx), .mp 3]), (5, .fobs (ps.map Pl.cs)), (7, .gro (pl ps).length (gE (pE 5) (pl ps))), (8, .arr tk.length)] = true := (by repeat' (first | exact (rfl : stoBd _ [] = true) | refine stoBd_cons (Nat.le_of_ble_eq_true rfl) ?_ ?_ | exact (by first | rfl | exact hb _ (Nat.le_of_ble_eq_true rfl) | exact hob _ (Nat.le_of_ble_eq_true rfl) | (refine open_bd ?_ _ _; exact Nat.le_of_ble_eq_true rfl) | exact pls_bd _ _ | (refine gE_bd ?_ _; exact Nat.le_of_ble_eq_true rfl))))
  have hsb : stoBd 10 [(0, .map false es none), (1, .cells [.t (.int .i64 m), .mp 0, .t (.int .i64 c), .t (.int .i64 s)]), (3, .map false op none), (4, .cells [.own 8 1 (tk.map nE), .gsl 7 (pl ps).length 0 (pl ps).length 1, .t (.int .i64 nx), .mp 3]), (5, .fobs (ps.map Pl.cs)), (7, .gro (pl ps).length (gE (pE 5) (pl ps))), (8, .arr tk.length), (9, .cells [.t (.int .i64 0), .t (.int .i64 0), .t (.str []), .nils, .nils])] = true := (by repeat' (first | exact (rfl : stoBd _ [] = true) | refine stoBd_cons (Nat.le_of_ble_eq_true rfl) ?_ ?_ | exact (by first | rfl | exact hb _ (Nat.le_of_ble_eq_true rfl) | exact hob _ (Nat.le_of_ble_eq_true rfl) | (refine open_bd ?_ _ _; exact Nat.le_of_ble_eq_true rfl) | exact pls_bd _ _ | (refine gE_bd ?_ _; exact Nat.le_of_ble_eq_true rfl))))
  have hn : n < tk.length := (List.getElem?_eq_some_iff.1 htk).1
  have ha : a < (pl ps).length := by rw [pl_length]; exact (List.getElem?_eq_some_iff.1 hp).1
  have hpos : 0 < (pl ps).length := by omega
  have hpc : (ps.map Pl.cs)[a]? = some p.cs := by simp [hp]
  refine FnOk.run H.i19 H.mixed rfl rfl ?_
  refine fR rfl ?_
  refine Mid.callS (none_gb H m c s _ _ hsb) rfl rfl hsb rfl ?_
  refine fM rfl ?_
  refine Mid.lookVG (.ptr 4 0) rfl rfl rfl rfl rfl (hk) (by rw [hg]; rfl) (by (repeat' (first | exact trivial | exact Bool.not_or_self _ | exact grd1 _ | exact grd2 _ | exact grd3 _ _ | exact grd4 _ _ | refine And.intro ?_ ?_ | exact rfl | (simp; done) | (simp <;> omega))); done) (by (repeat' (first | exact trivial | exact Bool.not_or_self _ | exact grd1 _ | exact grd2 _ | exact grd3 _ _ | exact grd4 _ _ | refine And.intro ?_ ?_ | exact rfl | (simp; done) | (simp <;> omega))); done) rfl ?_
  refine fM rfl ?_
  refine Mid.lookVG (.ptr 4 0) rfl rfl rfl rfl rfl (hk) (by rw [hg]; rfl) (by (repeat' (first | exact trivial | exact Bool.not_or_self _ | exact grd1 _ | exact grd2 _ | exact grd3 _ _ | exact grd4 _ _ | refine And.intro ?_ ?_ | exact rfl | (simp; done) | (simp <;> omega))); done) (by (repeat' (first | exact trivial | exact Bool.not_or_self _ | exact grd1 _ | exact grd2 _ | exact grd3 _ _ | exact grd4 _ _ | refine And.intro ?_ ?_ | exact rfl | (simp; done) | (simp <;> omega))); done) rfl ?_
  refine fM rfl ?_
  refine lMG rfl rfl rfl rfl ?_
  refine fM rfl ?_
  refine Run.condF rfl rfl (by simp; omega) ?_
  refine fR rfl ?_
  refine Mid.lookV (.ptr 4 0) rfl rfl rfl rfl (hk) (by rw [hg]; rfl) rfl ?_
  refine fM rfl ?_
  refine Mid.elemMap rfl rfl rfl htk rfl rfl ?_
  refine fM rfl ?_
  refine pu rfl ?_
  refine Mid.ldG (a) 0 (sz := 1) rfl rfl (by omega) (by omega) (fun _ => rfl) (pl_some (by rw [pl_length] at ha; exact ha)) rfl rfl ?_
  refine p0 rfl ?_
  refine Mid.fast (f := 1) rfl (by (repeat' (first | exact trivial | exact Bool.not_or_self _ | exact grd1 _ | exact grd2 _ | exact grd3 _ _ | exact grd4 _ _ | refine And.intro ?_ ?_ | exact rfl | (simp; done) | (simp <;> omega))); done) ?_
  refine Run.fast (f := 4) rfl (by (repeat' (first | exact trivial | exact Bool.not_or_self _ | exact grd1 _ | exact grd2 _ | exact grd3 _ _ | exact grd4 _ _ | refine And.intro ?_ ?_ | exact rfl | (simp; done) | (simp <;> omega))); done) ?_
  cases hld : p.ld with
  | false =>
    refine Mid.ldF (cs := p.cs) (.t (.bool false)) rfl rfl hpc (by simp [Pl.cs, hld]) rfl ?_
    refine fM rfl ?_
    refine Run.condT rfl rfl rfl ?_
    refine fR rfl ?_
    refine Run.fin rfl (EndOk.sameX rfl rfl rfl hsa ?_)
    exact .tup (.cons zeroR (.cons (.t rfl) .nil))
  | true =>
    refine Mid.ldF (cs := p.cs) (.t (.bool true)) rfl rfl hpc (by simp [Pl.cs, hld]) rfl ?_
    refine fM rfl ?_
    refine Run.condF rfl rfl rfl ?_
    refine Run.fast (f := 4) rfl (by (repeat' (first | exact trivial | exact Bool.not_or_self _ | exact grd1 _ | exact grd2 _ | exact grd3 _ _ | exact grd4 _ _ | refine And.intro ?_ ?_ | exact rfl | (simp; done) | (simp <;> omega))); done) ?_
    refine Mid.ldFA (cs := p.cs) rfl rfl hpc (by simp [Pl.cs]) rfl rfl ?_
    skip
    refine Mid.call (copy_ok H p.res hpk.s) rfl rfl rfl rfl ?_
    refine fM rfl ?_
    refine Run.fin rfl (EndOk.sameX rfl rfl rfl hsa ?_)
    exact .tup (.cons (.le (.same rfl)) (.cons (.t rfl) .nil))
theorem calls_ok (H : Pr P) (m c s : Int) (o : AObj) (r : List (Nat × AObj)) (hb : stoBd 9 ((0, o) :: (1, .cells [.t (.int .i64 m), .mp 0, .t (.int .i64 c), .t (.int .i64 s)]) :: r) = true) : FnOk P 12 [.ptr 1 0] ⟨(0, o) :: (1, .cells [.t (.int .i64 m), .mp 0, .t (.int .i64 c), .t (.int .i64 s)]) :: r, 9⟩ { v := .t (.int .i64 c), rd := true } := by
  refine FnOk.run H.i12 H.mixed rfl rfl ?_
  refine fR rfl ?_
  refine Mid.callS (none_ga H m c s _ _ hb) rfl rfl hb rfl ?_
  refine fM rfl ?_
  refine Run.condF rfl rfl rfl ?_
  refine fR rfl ?_
  refine Run.fin rfl (EndOk.sameX rfl (List.append_nil _).symm rfl hb (.t rfl))
theorem saved_ok (H : Pr P) (m c s : Int) (o : AObj) (r : List (Nat × AObj)) (hb : stoBd 9 ((0, o) :: (1, .cells [.t (.int .i64 m), .mp 0, .t (.int .i64 c), .t (.int .i64 s)]) :: r) = true) : FnOk P 14 [.ptr 1 0] ⟨(0, o) :: (1, .cells [.t (.int .i64 m), .mp 0, .t (.int .i64 c), .t (.int .i64 s)]) :: r, 9⟩ { v := .t (.int .i64 s), rd := true } := by
  refine FnOk.run H.i14 H.mixed rfl rfl ?_
  refine fR rfl ?_
  refine Mid.callS (none_ga H m c s _ _ hb) rfl rfl hb rfl ?_
  refine fM rfl ?_
  refine Run.condF rfl rfl rfl ?_
  refine fR rfl ?_
  refine Run.fin rfl (EndOk.sameX rfl (List.append_nil _).symm rfl hb (.t rfl))
end Go.GB.C35


/-
  L35M: chapter 35: the chapter's examples.
-/
namespace Go.GB.C35
open Go.GB
set_option linter.unusedSimpArgs false
set_option linter.unusedVariables false
set_option maxRecDepth 100000
set_option maxHeartbeats 16000000
variable {P : Program}
theorem renOb_cons {ρ : Nat → Nat} {k k' : Nat} {o o' : AObj} {r r' : List (Nat × AObj)} (h1 : ρ k = k') (h2 : o.ren ρ = o') (h3 : renOb ρ r = r') : renOb ρ ((k, o) :: r) = (k', o') :: r' := by
  simp [renOb, h1, h2, h3]
theorem ren_pls (ρ : Nat → Nat) (ps : List Pl) : (AObj.fobs (ps.map Pl.cs)).ren ρ = .fobs (ps.map Pl.cs) := by
  simp only [AObj.ren, List.map_map]
  congr 1
theorem ren_open {ρ : Nat → Nat} {F F' : Nat} (h : ρ F = F') (nx n : Nat) (st : Option (Nat × List Nat)) : (AObj.map false (openE F nx n) st).ren ρ = .map false (openE F' nx n) st := by
  subst h
  simp only [AObj.ren, openE, List.map_map]
  congr 1
theorem mkI_k (n : Int) : (mkI n).Ok := .mk (by decide) (by decide) (by simp [mkI, Val.items]) (by simp [mkI, Val.keys]) (by simp [mkI, Val.text])
theorem mkT_k (s : Str) (h : s.length ≤ 140737488355328) : (mkT s).Ok := .mk (by simp [mkT, Val.items]) (by simp [mkT, Val.keys]) (by simp [mkT, Val.items]) (by simp [mkT, Val.text, h]) (by simp [mkT, Val.keys])
def kA : List Pl := [⟨mkI 7, Val.zero, false⟩]
def kB : List Pl := [⟨mkI 7, Val.zero, false⟩, ⟨mkT [98], Val.zero, false⟩]
def kC : List Pl := [⟨mkI 7, mkI 1, true⟩, ⟨mkT [98], mkI 2, true⟩]
theorem k_ne : sameV (mkI 7) (mkT [98]) = false := by
  simp [sameV, cmpV_eq, mkI, mkT, Val.kind, cmpI]
theorem fnd_b : fnd kA (mkT [98]) = none := by simp [fnd, kA, k_ne]
theorem fnd_a : fnd kB (mkI 7) = some 0 := by simp [fnd_cons, kB, sameV_refl]
theorem kB_ok : ∀ p, p ∈ kB → p.Ok := by
  intro p hp
  simp [kB] at hp
  rcases hp with rfl | rfl
  · exact ⟨mkI_k 7, Val.zero_ok⟩
  · exact ⟨mkT_k _ (by decide), Val.zero_ok⟩
theorem knows_ok (H : Pr P) : FnOk P 10 [] ⟨[], 0⟩ { v := .t (.bool true) } := by
  have h2 := add_ok H 2 0 0 0 0 [0] kA [] [([.int .i64 (0 : Int)], .ptr 4 0)] (by decide) (mkT [98]) (mkT_k _ (by decide)) (by decide) (by decide) (by decide) (fun p hp => kB_ok p (by simp [kA] at hp; simp [kB, hp])) rfl rfl (fun m h => by simp [V.bds, V.bd]; omega) (fun _ _ => rfl)
  rw [show addS kA (mkT [98]) = 0 by simp [addS, fnd_b], show addAt kA (mkT [98]) = 1 by rw [addAt, fnd_b]; rfl, show addPs kA (mkT [98]) = kB by simp [addPs, fnd_b]; rfl] at h2
  have h3 := add_ok H 2 0 0 0 0 [0, 1] kB [] [([.int .i64 (0 : Int)], .ptr 4 0)] (by decide) (mkI 7) (mkI_k _) (by decide) (by decide) (by decide) kB_ok rfl rfl (fun m h => by simp [V.bds, V.bd]; omega) (fun _ _ => rfl)
  rw [show addS kB (mkI 7) = 1 by simp [addS, fnd_a], show addAt kB (mkI 7) = 0 by simp [addAt, fnd_a], show addPs kB (mkI 7) = kB by simp [addPs, fnd_a]] at h3
  have h4 := next_ok H 2 0 1 0 0 [0, 1, 0] kB [([.int .i64 (0 : Int)], .ptr 4 0)] (by decide) (by decide) (by decide) (by decide) kB_ok rfl rfl (fun m h => by simp [V.bds, V.bd]; omega)
  have h5 := done_ok H 2 1 1 0 2 0 [0, 1, 0] kB [mkI 1, mkI 2] [([.int .i64 (0 : Int)], .ptr 4 0)] (by decide) (by intro v hv; simp at hv; rcases hv with rfl | rfl <;> exact mkI_k _) (by decide) (by decide) (by decide) kB_ok rfl rfl (fun m h => by simp [V.bds, V.bd]; omega)
  have h6 := take_ok H 2 1 1 0 2 [0, 1, 0] kC [] [([.int .i64 (0 : Int)], .ptr 4 0)] 2 0 ⟨mkI 7, mkI 1, true⟩ rfl rfl ⟨mkI_k 7, mkI_k 1⟩ (by decide) (by decide) rfl rfl (fun m h => by simp [V.bds, V.bd]; omega) (fun _ _ => rfl)
  have h7 := calls_ok H 2 1 1 (.map false [([.int .i64 (0 : Int)], .ptr 4 0)] none) [(3, .map false [] none), (4, .cells [.own 8 1 ([(0 : Int), 1, 0].map nE), .gsl 7 (pl kC).length 0 (pl kC).length 1, .t (.int .i64 2), .mp 3]), (5, .fobs (kC.map Pl.cs)), (7, .gro (pl kC).length (gE (pE 5) (pl kC))), (8, .arr [(0 : Int), 1, 0].length)] (by repeat' (first | exact (rfl : stoBd _ [] = true) | refine stoBd_cons (Nat.le_of_ble_eq_true rfl) ?_ ?_ | exact (by first | rfl | (refine open_bd ?_ _ _; exact Nat.le_of_ble_eq_true rfl) | exact pls_bd _ _ | (refine gE_bd ?_ _; exact Nat.le_of_ble_eq_true rfl))))
  have h8 := saved_ok H 2 1 1 (.map false [([.int .i64 (0 : Int)], .ptr 4 0)] none) [(3, .map false [] none), (4, .cells [.own 8 1 ([(0 : Int), 1, 0].map nE), .gsl 7 (pl kC).length 0 (pl kC).length 1, .t (.int .i64 2), .mp 3]), (5, .fobs (kC.map Pl.cs)), (7, .gro (pl kC).length (gE (pE 5) (pl kC))), (8, .arr [(0 : Int), 1, 0].length)] (by repeat' (first | exact (rfl : stoBd _ [] = true) | refine stoBd_cons (Nat.le_of_ble_eq_true rfl) ?_ ?_ | exact (by first | rfl | (refine open_bd ?_ _ _; exact Nat.le_of_ble_eq_true rfl) | exact pls_bd _ _ | (refine gE_bd ?_ _; exact Nat.le_of_ble_eq_true rfl))))
  have hs := same_ok H [mkI 7, mkT [98]] [mkI 7, mkT [98]] (by decide) (by decide) (by intro x hx; simp at hx; rcases hx with rfl | rfl; exact mkI_k _; exact mkT_k _ (by decide)) (by intro x hx; simp at hx; rcases hx with rfl | rfl; exact mkI_k _; exact mkT_k _ (by decide))
  rw [show sameL [mkI 7, mkT [98]] [mkI 7, mkT [98]] = true by simp [sameL, sameV_refl]] at hs
  refine FnOk.run H.i10 H.mixed rfl rfl ?_
  refine fR rfl ?_
  refine Mid.callR [] (new_ok H 2 (by decide) (by decide)) rfl rfl rfl rfl (by repeat' (first | exact (rfl : stoBd _ [] = true) | refine stoBd_cons (Nat.le_of_ble_eq_true rfl) ?_ ?_ | exact (by first | rfl | (refine open_bd ?_ _ _; exact Nat.le_of_ble_eq_true rfl) | exact pls_bd _ _ | (refine gE_bd ?_ _; exact Nat.le_of_ble_eq_true rfl)))) (by repeat' (first | exact trivial | refine And.intro ?_ ?_ | exact rfl | exact (congrArg some (ren_pls _ _)).symm | exact (congrArg some (ren_open rfl _ _ _)).symm | exact (congrArg some (AObj.ren_gE (fun _ => rfl) _ _)).symm)) rfl (v' := .tup [.ptr 1 0, .t (.int .i64 0)]) rfl (ob' := [(0, .map false [] (some (0, []))), (1, .cells [.t (.int .i64 2), .mp 0, .t (.int .i64 0), .t (.int .i64 0)])]) (by repeat' (first | exact (rfl : renOb _ [] = []) | refine renOb_cons rfl ?_ ?_ | exact rfl | exact ren_pls _ _ | exact ren_open rfl _ _ _ | exact AObj.ren_gE (fun _ => rfl) _ _)) rfl rfl ?_
  refine fM rfl ?_
  refine Mid.call (mkI_ok H 7) rfl rfl rfl rfl ?_
  skip
  refine Mid.call (mkT_ok H [98]) rfl rfl rfl rfl ?_
  refine fM rfl ?_
  refine Run.condF rfl rfl rfl ?_
  refine fR rfl ?_
  refine Mid.callR [0, 1] (add_first H 2 0 0 0 (by decide) (mkI 7) (mkI_k 7) _) rfl rfl rfl rfl (by repeat' (first | exact (rfl : stoBd _ [] = true) | refine stoBd_cons (Nat.le_of_ble_eq_true rfl) ?_ ?_ | exact (by first | rfl | (refine open_bd ?_ _ _; exact Nat.le_of_ble_eq_true rfl) | exact pls_bd _ _ | (refine gE_bd ?_ _; exact Nat.le_of_ble_eq_true rfl)))) (by repeat' (first | exact trivial | refine And.intro ?_ ?_ | exact rfl | exact (congrArg some (ren_pls _ _)).symm | exact (congrArg some (ren_open rfl _ _ _)).symm | exact (congrArg some (AObj.ren_gE (fun _ => rfl) _ _)).symm)) rfl (v' := .tup [.t (.int .i64 0), .t (.int .i64 0)]) rfl (ob' := [(0, .map false [([.int .i64 0], .ptr 6 0)] none), (5, .map false [] none), (6, .cells [.own 10 1 ([(0 : Int)].map nE), .gsl 9 (pl kA).length 0 (pl kA).length 1, .t (.int .i64 0), .mp 5]), (7, .fobs (kA.map Pl.cs)), (9, .gro (pl kA).length (gE (pE 7) (pl kA))), (10, .arr [(0 : Int)].length)]) (by repeat' (first | exact (rfl : renOb _ [] = []) | refine renOb_cons rfl ?_ ?_ | exact rfl | exact ren_pls _ _ | exact ren_open rfl _ _ _ | exact AObj.ren_gE (fun _ => rfl) _ _)) rfl rfl ?_
  refine fM rfl ?_
  refine Mid.callR [0, 1, 4, 5, 6, 7, 8, 9, 10] (h2) rfl rfl rfl rfl (by repeat' (first | exact (rfl : stoBd _ [] = true) | refine stoBd_cons (Nat.le_of_ble_eq_true rfl) ?_ ?_ | exact (by first | rfl | (refine open_bd ?_ _ _; exact Nat.le_of_ble_eq_true rfl) | exact pls_bd _ _ | (refine gE_bd ?_ _; exact Nat.le_of_ble_eq_true rfl)))) (by repeat' (first | exact trivial | refine And.intro ?_ ?_ | exact rfl | exact (congrArg some (ren_pls _ _)).symm | exact (congrArg some (ren_open rfl _ _ _)).symm | exact (congrArg some (AObj.ren_gE (fun _ => rfl) _ _)).symm)) rfl (v' := .tup [.t (.int .i64 1), .t (.int .i64 0)]) rfl (ob' := [(1, .cells [.t (.int .i64 2), .mp 0, .t (.int .i64 0), .t (.int .i64 0)]), (6, .cells [.own 10 1 ([(0 : Int), 1].map nE), .gsl 9 (pl kB).length 0 (pl kB).length 1, .t (.int .i64 0), .mp 5]), (7, .fobs (kB.map Pl.cs)), (9, .gro (pl kB).length (gE (pE 7) (pl kB))), (10, .arr [(0 : Int), 1].length)]) (by repeat' (first | exact (rfl : renOb _ [] = []) | refine renOb_cons rfl ?_ ?_ | exact rfl | exact ren_pls _ _ | exact ren_open rfl _ _ _ | exact AObj.ren_gE (fun _ => rfl) _ _)) rfl rfl ?_
  refine fM rfl ?_
  refine Mid.callR [0, 1, 4, 5, 6, 7, 8, 9, 10] (h3) rfl rfl rfl rfl (by repeat' (first | exact (rfl : stoBd _ [] = true) | refine stoBd_cons (Nat.le_of_ble_eq_true rfl) ?_ ?_ | exact (by first | rfl | (refine open_bd ?_ _ _; exact Nat.le_of_ble_eq_true rfl) | exact pls_bd _ _ | (refine gE_bd ?_ _; exact Nat.le_of_ble_eq_true rfl)))) (by repeat' (first | exact trivial | refine And.intro ?_ ?_ | exact rfl | exact (congrArg some (ren_pls _ _)).symm | exact (congrArg some (ren_open rfl _ _ _)).symm | exact (congrArg some (AObj.ren_gE (fun _ => rfl) _ _)).symm)) rfl (v' := .tup [.t (.int .i64 2), .t (.int .i64 0)]) rfl (ob' := [(1, .cells [.t (.int .i64 2), .mp 0, .t (.int .i64 0), .t (.int .i64 1)]), (6, .cells [.own 10 1 ([(0 : Int), 1, 0].map nE), .gsl 9 (pl kB).length 0 (pl kB).length 1, .t (.int .i64 0), .mp 5]), (7, .fobs (kB.map Pl.cs)), (9, .gro (pl kB).length (gE (pE 7) (pl kB))), (10, .arr [(0 : Int), 1, 0].length)]) (by repeat' (first | exact (rfl : renOb _ [] = []) | refine renOb_cons rfl ?_ ?_ | exact rfl | exact ren_pls _ _ | exact ren_open rfl _ _ _ | exact AObj.ren_gE (fun _ => rfl) _ _)) rfl rfl ?_
  refine fM rfl ?_
  refine Mid.callR [0, 1, 4, 5, 6, 7, 8, 9, 10] (h4) rfl rfl rfl rfl (by repeat' (first | exact (rfl : stoBd _ [] = true) | refine stoBd_cons (Nat.le_of_ble_eq_true rfl) ?_ ?_ | exact (by first | rfl | (refine open_bd ?_ _ _; exact Nat.le_of_ble_eq_true rfl) | exact pls_bd _ _ | (refine gE_bd ?_ _; exact Nat.le_of_ble_eq_true rfl)))) (by repeat' (first | exact trivial | refine And.intro ?_ ?_ | exact rfl | exact (congrArg some (ren_pls _ _)).symm | exact (congrArg some (ren_open rfl _ _ _)).symm | exact (congrArg some (AObj.ren_gE (fun _ => rfl) _ _)).symm)) rfl (v' := .tup [.t (.lst ([mkI 7, mkT [98]].map Val.enc)), .t (.bool true)]) rfl (ob' := [(1, .cells [.t (.int .i64 2), .mp 0, .t (.int .i64 1), .t (.int .i64 1)]), (5, .map false (openE 7 0 2) none), (6, .cells [.own 10 1 ([(0 : Int), 1, 0].map nE), .gsl 9 (pl kB).length 0 (pl kB).length 1, .t (.int .i64 2), .mp 5])]) (by repeat' (first | exact (rfl : renOb _ [] = []) | refine renOb_cons rfl ?_ ?_ | exact rfl | exact ren_pls _ _ | exact ren_open rfl _ _ _ | exact AObj.ren_gE (fun _ => rfl) _ _)) rfl rfl ?_
  refine fM rfl ?_
  refine Mid.call (mkI_ok H 1) rfl rfl rfl rfl ?_
  skip
  refine Mid.call (mkI_ok H 2) rfl rfl rfl rfl ?_
  refine fM rfl ?_
  refine Mid.callR [0, 1, 4, 5, 6, 7, 8, 9, 10] (h5) rfl rfl rfl rfl (by repeat' (first | exact (rfl : stoBd _ [] = true) | refine stoBd_cons (Nat.le_of_ble_eq_true rfl) ?_ ?_ | exact (by first | rfl | (refine open_bd ?_ _ _; exact Nat.le_of_ble_eq_true rfl) | exact pls_bd _ _ | (refine gE_bd ?_ _; exact Nat.le_of_ble_eq_true rfl)))) (by repeat' (first | exact trivial | refine And.intro ?_ ?_ | exact rfl | exact (congrArg some (ren_pls _ _)).symm | exact (congrArg some (ren_open rfl _ _ _)).symm | exact (congrArg some (AObj.ren_gE (fun _ => rfl) _ _)).symm)) rfl (v' := .t (.int .i64 0)) rfl (ob' := [(5, .map false [] none), (6, .cells [.own 10 1 ([(0 : Int), 1, 0].map nE), .gsl 9 (pl kC).length 0 (pl kC).length 1, .t (.int .i64 2), .mp 5]), (7, .fobs (kC.map Pl.cs)), (9, .gro (pl kC).length (gE (pE 7) (pl kC)))]) (by repeat' (first | exact (rfl : renOb _ [] = []) | refine renOb_cons rfl ?_ ?_ | exact rfl | exact ren_pls _ _ | exact ren_open rfl _ _ _ | exact AObj.ren_gE (fun _ => rfl) _ _)) rfl rfl ?_
  refine fM rfl ?_
  refine Mid.callR [0, 1, 4, 5, 6, 7, 8, 9, 10] (h6) rfl rfl rfl rfl (by repeat' (first | exact (rfl : stoBd _ [] = true) | refine stoBd_cons (Nat.le_of_ble_eq_true rfl) ?_ ?_ | exact (by first | rfl | (refine open_bd ?_ _ _; exact Nat.le_of_ble_eq_true rfl) | exact pls_bd _ _ | (refine gE_bd ?_ _; exact Nat.le_of_ble_eq_true rfl)))) (by repeat' (first | exact trivial | refine And.intro ?_ ?_ | exact rfl | exact (congrArg some (ren_pls _ _)).symm | exact (congrArg some (ren_open rfl _ _ _)).symm | exact (congrArg some (AObj.ren_gE (fun _ => rfl) _ _)).symm)) rfl (v' := .tup [(mkI 1).v, .t (.bool true)]) rfl (ob' := []) (by repeat' (first | exact (rfl : renOb _ [] = []) | refine renOb_cons rfl ?_ ?_ | exact rfl | exact ren_pls _ _ | exact ren_open rfl _ _ _ | exact AObj.ren_gE (fun _ => rfl) _ _)) rfl rfl ?_
  refine fM rfl ?_
  refine Mid.ungd rfl rfl rfl ?_
  refine fM rfl ?_
  refine caG rfl rfl (fun hg => ⟨_, rfl, hs, rfl⟩) rfl rfl ?_
  refine fM rfl ?_
  refine Mid.ungd rfl rfl rfl ?_
  refine Mid.callR [0, 1, 4, 5, 6, 7, 8, 9, 10] (h7) rfl rfl rfl rfl (by repeat' (first | exact (rfl : stoBd _ [] = true) | refine stoBd_cons (Nat.le_of_ble_eq_true rfl) ?_ ?_ | exact (by first | rfl | (refine open_bd ?_ _ _; exact Nat.le_of_ble_eq_true rfl) | exact pls_bd _ _ | (refine gE_bd ?_ _; exact Nat.le_of_ble_eq_true rfl)))) (by repeat' (first | exact trivial | refine And.intro ?_ ?_ | exact rfl | exact (congrArg some (ren_pls _ _)).symm | exact (congrArg some (ren_open rfl _ _ _)).symm | exact (congrArg some (AObj.ren_gE (fun _ => rfl) _ _)).symm)) rfl (v' := .t (.int .i64 1)) rfl (ob' := []) (by repeat' (first | exact (rfl : renOb _ [] = []) | refine renOb_cons rfl ?_ ?_ | exact rfl | exact ren_pls _ _ | exact ren_open rfl _ _ _ | exact AObj.ren_gE (fun _ => rfl) _ _)) rfl rfl ?_
  refine fM rfl ?_
  refine Mid.ungd rfl rfl rfl ?_
  refine Mid.callR [0, 1, 4, 5, 6, 7, 8, 9, 10] (h8) rfl rfl rfl rfl (by repeat' (first | exact (rfl : stoBd _ [] = true) | refine stoBd_cons (Nat.le_of_ble_eq_true rfl) ?_ ?_ | exact (by first | rfl | (refine open_bd ?_ _ _; exact Nat.le_of_ble_eq_true rfl) | exact pls_bd _ _ | (refine gE_bd ?_ _; exact Nat.le_of_ble_eq_true rfl)))) (by repeat' (first | exact trivial | refine And.intro ?_ ?_ | exact rfl | exact (congrArg some (ren_pls _ _)).symm | exact (congrArg some (ren_open rfl _ _ _)).symm | exact (congrArg some (AObj.ren_gE (fun _ => rfl) _ _)).symm)) rfl (v' := .t (.int .i64 1)) rfl (ob' := []) (by repeat' (first | exact (rfl : renOb _ [] = []) | refine renOb_cons rfl ?_ ?_ | exact rfl | exact ren_pls _ _ | exact ren_open rfl _ _ _ | exact AObj.ren_gE (fun _ => rfl) _ _)) rfl rfl ?_
  refine fM rfl ?_
  refine Run.fin rfl (EndOk.go ?_); exact .t rfl
end Go.GB.C35


/-
  L35RI: chapter 35: contracts where another queue stands beside.
-/
namespace Go.GB.C35
open Go.GB
set_option linter.unusedSimpArgs false
set_option linter.unusedVariables false
set_option maxRecDepth 100000
set_option maxHeartbeats 16000000
variable {P : Program}
theorem none_ga2 (H : Pr P) (m c s : Int) (o : AObj) (r : List (Nat × AObj)) (hb : stoBd 16 ((0, o) :: (1, .cells [.t (.int .i64 m), .mp 0, .t (.int .i64 c), .t (.int .i64 s)]) :: r) = true) : FnOk P 31 [.ptr 1 0] ⟨(0, o) :: (1, .cells [.t (.int .i64 m), .mp 0, .t (.int .i64 c), .t (.int .i64 s)]) :: r, 16⟩ { v := .t (.bool false), rd := true } := by
  refine FnOk.run H.i31 H.mixed rfl rfl ?_
  refine fR rfl ?_
  refine Run.fin rfl (EndOk.sameX rfl (List.append_nil _).symm rfl hb (.t rfl))
theorem none_gb2 (H : Pr P) (m c s : Int) (o : AObj) (r : List (Nat × AObj)) (hb : stoBd 17 ((0, o) :: (1, .cells [.t (.int .i64 m), .mp 0, .t (.int .i64 c), .t (.int .i64 s)]) :: r) = true) : FnOk P 31 [.ptr 1 0] ⟨(0, o) :: (1, .cells [.t (.int .i64 m), .mp 0, .t (.int .i64 c), .t (.int .i64 s)]) :: r, 17⟩ { v := .t (.bool false), rd := true } := by
  refine FnOk.run H.i31 H.mixed rfl rfl ?_
  refine fR rfl ?_
  refine Run.fin rfl (EndOk.sameX rfl (List.append_nil _).symm rfl hb (.t rfl))
theorem add_ok2 (H : Pr P) (m c s f nx : Int) (tk : List Int) (ps : List Pl) (op es : List (List T × V)) (hf : 0 ≤ f) (v : Val) (hv : v.Ok) (hs : 0 ≤ s ∧ s < 1000000) (ht : tk.length < 1000000) (hpl : ps.length < 1000000) (hpo : ∀ p, p ∈ ps → p.Ok) (hk : keysOk [.int .i64] es = true) (hg : mget [.int .i64 f] es = some (.ptr 4 0)) (hb : ∀ k, 16 ≤ k → V.bds k (es.map (·.2)) = true) (hob : ∀ k, 16 ≤ k → V.bds k (op.map (·.2)) = true) (o10 o11 o12 o14 o15 : AObj) (hx10 : ∀ k, 16 ≤ k → o10.bd k = true) (hx11 : ∀ k, 16 ≤ k → o11.bd k = true) (hx12 : ∀ k, 16 ≤ k → o12.bd k = true) (hx14 : ∀ k, 16 ≤ k → o14.bd k = true) (hx15 : ∀ k, 16 ≤ k → o15.bd k = true) : FnOk P 16 [.ptr 1 0, .t (.int .i64 f), v.v] ⟨[(0, .map false es none), (1, .cells [.t (.int .i64 m), .mp 0, .t (.int .i64 c), .t (.int .i64 s)]), (3, .map false op none), (4, .cells [.own 8 1 (tk.map nE), .gsl 7 (pl ps).length 0 (pl ps).length 1, .t (.int .i64 nx), .mp 3]), (5, .fobs (ps.map Pl.cs)), (7, .gro (pl ps).length (gE (pE 5) (pl ps))), (8, .arr tk.length), (10, o10), (11, o11), (12, o12), (14, o14), (15, o15)], 16⟩ { v := .tup [.t (.int .i64 tk.length), .t (.int .i64 0)], ob := [(1, .cells [.t (.int .i64 m), .mp 0, .t (.int .i64 c), .t (.int .i64 (s + addS ps v))]), (4, .cells [.own 8 1 ((tk ++ [(addAt ps v : Int)]).map nE), .gsl 7 (pl (addPs ps v)).length 0 (pl (addPs ps v)).length 1, .t (.int .i64 nx), .mp 3]), (5, .fobs ((addPs ps v).map Pl.cs)), (7, .gro (pl (addPs ps v)).length (gE (pE 5) (pl (addPs ps v)))), (8, .arr (tk ++ [(addAt ps v : Int)]).length)], n := 0, rd := true } := by
  have hsb : stoBd 17 [(0, .map false es none), (1, .cells [.t (.int .i64 m), .mp 0, .t (.int .i64 c), .t (.int .i64 s)]), (3, .map false op none), (4, .cells [.own 8 1 (tk.map nE), .gsl 7 (pl ps).length 0 (pl ps).length 1, .t (.int .i64 nx), .mp 3]), (5, .fobs (ps.map Pl.cs)), (7, .gro (pl ps).length (gE (pE 5) (pl ps))), (8, .arr tk.length), (10, o10), (11, o11), (12, o12), (14, o14), (15, o15), (16, .cells [.t (.int .i64 v.kind), .t (.int .i64 v.int), .t (.str v.text), .t (.lst (v.items.map Val.enc)), .t (.lst (v.keys.map sE))])] = true := (by repeat' (first | exact (rfl : stoBd _ [] = true) | refine stoBd_cons (Nat.le_of_ble_eq_true rfl) ?_ ?_ | exact (by first | rfl | exact hb _ (Nat.le_of_ble_eq_true rfl) | exact hob _ (Nat.le_of_ble_eq_true rfl) | (refine open_bd ?_ _ _; exact Nat.le_of_ble_eq_true rfl) | exact pls_bd _ _ | exact hx10 _ (Nat.le_of_ble_eq_true rfl) | exact hx11 _ (Nat.le_of_ble_eq_true rfl) | exact hx12 _ (Nat.le_of_ble_eq_true rfl) | exact hx14 _ (Nat.le_of_ble_eq_true rfl) | exact hx15 _ (Nat.le_of_ble_eq_true rfl) | (refine gE_bd ?_ _; exact Nat.le_of_ble_eq_true rfl))))
  have hR : fnd ps v = fnd (ps.drop 0) v := rfl
  refine FnOk.run H.i16 H.mixed rfl rfl ?_
  refine fR rfl ?_
  refine Mid.callS (none_gb2 H m c s _ _ hsb) rfl rfl hsb rfl ?_
  refine fM rfl ?_
  refine Run.condF rfl rfl rfl ?_
  refine fR rfl ?_
  refine Run.condF rfl rfl (by simp; omega) ?_
  refine fR rfl ?_
  refine Mid.lookV (.ptr 4 0) rfl rfl rfl rfl hk (by rw [hg]; rfl) rfl ?_
  refine fM rfl ?_
  refine Run.condF rfl rfl rfl ?_
  refine fR rfl ?_
  refine pu rfl ?_
  refine fM rfl ?_
  refine rList (pl ps) (fun i (_ : Unit) => { env := [(0, .ptr 1 0), (5, .ptr 16 0), (8, .ptr 4 0), (9, .t (.int .i64 (-1))), (38, .gsl 7 (pl ps).length 0 (pl ps).length 1), (39, .t (.int .i64 (pl ps).length)), (40, .t (.int .i64 i))], s := ⟨[(0, .map false es none), (1, .cells [.t (.int .i64 m), .mp 0, .t (.int .i64 c), .t (.int .i64 s)]), (3, .map false op none), (4, .cells [.own 8 1 (tk.map nE), .gsl 7 (pl ps).length 0 (pl ps).length 1, .t (.int .i64 nx), .mp 3]), (5, .fobs (ps.map Pl.cs)), (7, .gro (pl ps).length (gE (pE 5) (pl ps))), (8, .arr tk.length), (10, o10), (11, o11), (12, o12), (14, o14), (15, o15), (16, .cells [.t (.int .i64 v.kind), .t (.int .i64 v.int), .t (.str v.text), .t (.lst (v.items.map Val.enc)), .t (.lst (v.keys.map sE))])], 17⟩ }) (fun r i _ => fnd ps v = (fnd (ps.drop i) v).map (· + i)) 17 () rfl (by simp) rfl rfl rfl ?_ ?_ (he := (by repeat' (first | exact trivial | exact LeX.t | exact LeX.top | exact LeX.nilOwn (Nat.le_of_ble_eq_true rfl) (Nat.le_of_ble_eq_true rfl) | exact LeX.ownT | exact LeX.nilT | exact LeX.same rfl | exact LeX.tEq (by simp) | exact LeX.ownEq (by simp) (Nat.le_of_ble_eq_true rfl) | exact LeX.tEq (by congr 1 <;> omega) | exact Or.inr ⟨Nat.le_of_ble_eq_true rfl, Nat.le_of_ble_eq_true rfl, rfl⟩ | refine Or.inl ⟨Nat.le_of_ble_eq_true rfl, _, rfl, ?_⟩ | refine LeO.cells ?_ | exact LeO.arr rfl | exact LeO.arr (by simp) | exact LeO.mE (by first | rfl | simp) (by first | exact Or.inl rfl | exact Or.inr rfl) | exact LeO.cE (by first | rfl | simp) | exact LeXs.cE (by first | rfl | simp) | refine LeO.map (by first | rfl | simp) ?_ (by first | exact Or.inl rfl | exact Or.inr rfl) | exact LeO.iter (by first | rfl | simp) (Nat.le_of_ble_eq_true rfl) | refine LeXs.cons ?_ ?_ | exact LeXs.nil | refine And.intro ?_ ?_))) (hs := (by repeat' (first | exact trivial | refine And.intro ?_ ?_ | exact Or.inr ⟨Nat.le_of_ble_eq_true rfl, Nat.le_of_ble_eq_true rfl, rfl⟩ | exact Or.inl ⟨(Nat.le_of_ble_eq_true rfl), _, rfl, AObj.leSame (by first | rfl | exact hb _ (Nat.le_of_ble_eq_true rfl) | exact hob _ (Nat.le_of_ble_eq_true rfl) | (refine open_bd ?_ _ _; exact Nat.le_of_ble_eq_true rfl) | exact pls_bd _ _ | exact hx10 _ (Nat.le_of_ble_eq_true rfl) | exact hx11 _ (Nat.le_of_ble_eq_true rfl) | exact hx12 _ (Nat.le_of_ble_eq_true rfl) | exact hx14 _ (Nat.le_of_ble_eq_true rfl) | exact hx15 _ (Nat.le_of_ble_eq_true rfl) | (refine gE_bd ?_ _; exact Nat.le_of_ble_eq_true rfl))⟩)))
  · intro _ hinv
    rw [pl_length, List.drop_length] at hinv
    simp [fnd] at hinv
    have hn : fnd ps v = none := by simpa [fnd] using hinv
    have e1 : addAt ps v = ps.length := by simp [addAt, hn]
    have e2 : addPs ps v = ps ++ [⟨v, Val.zero, false⟩] := by simp [addPs, hn]
    have e3 : addS ps v = 0 := by simp [addS, hn]
    rw [e1, e2, e3]
    refine fR rfl ?_
    refine Run.condF rfl rfl (by simp) ?_
    refine fR rfl ?_
    refine Run.condT rfl rfl rfl ?_
    refine fR rfl ?_
    refine pu rfl ?_
    refine fM rfl ?_
    refine Mid.call (copy_ok H v hv) rfl rfl rfl rfl ?_
    refine Mid.fast (f := 1) rfl (by (repeat' (first | exact trivial | exact Bool.not_or_self _ | exact grd1 _ | exact grd2 _ | exact grd3 _ _ | exact grd4 _ _ | refine And.intro ?_ ?_ | exact rfl | (simp; done) | (simp <;> omega))); done) ?_
    refine Mid.boxF (os := ps.map Pl.cs) 5 rfl rfl rfl rfl rfl ?_
    refine Mid.bslO (cs := [.fpt 5 (ps.map Pl.cs).length 0]) rfl rfl ?_
    refine Mid.appGG (pE 5) (pl ps) [(ps.map Pl.cs).length] rfl rfl rfl (fun _ => rfl) (fun _ => rfl) (by simp [pl_length]; omega) (by simp [pl_length]; omega) rfl ?_
    refine fM rfl ?_
    refine apM nE tk [((pl ps).length : Int)] rfl rfl rfl rfl rfl ?_ (h1 := by first | omega | (simp; omega) | (simp; done)) (h2 := by first | omega | (simp; omega) | (simp; done))
    refine fM rfl ?_
    refine lM rfl rfl rfl ?_
    refine p0 rfl ?_
    refine fM rfl ?_
    refine Run.fin rfl (EndOk.chg rfl rfl ?_ ?_)
    · exact .tup (.cons (.t (congrArg _ ((wrap64 (by first | omega | (simp; omega) | (simp; done)) (by first | omega | (simp; omega) | (simp; done))).trans (by simp)))) (.cons (.t rfl) .nil))
    · have eq : pl ps ++ [(ps.map Pl.cs).length] = pl (ps ++ [⟨v, Val.zero, false⟩]) := by rw [pl_push, List.length_map]
      have el : (pl ps).length + 1 = (pl (ps ++ [⟨v, Val.zero, false⟩])).length := by simp [pl_length]
      refine ⟨?_, ?_, ?_, ?_, ?_, ?_, ?_, ⟨(.inl ⟨Nat.le_of_ble_eq_true rfl, _, rfl, AObj.leSame (hx10 _ (Nat.le_of_ble_eq_true rfl))⟩), (.inl ⟨Nat.le_of_ble_eq_true rfl, _, rfl, AObj.leSame (hx11 _ (Nat.le_of_ble_eq_true rfl))⟩), (.inl ⟨Nat.le_of_ble_eq_true rfl, _, rfl, AObj.leSame (hx12 _ (Nat.le_of_ble_eq_true rfl))⟩), (.inl ⟨Nat.le_of_ble_eq_true rfl, _, rfl, AObj.leSame (hx14 _ (Nat.le_of_ble_eq_true rfl))⟩), (.inl ⟨Nat.le_of_ble_eq_true rfl, _, rfl, AObj.leSame (hx15 _ (Nat.le_of_ble_eq_true rfl))⟩), trivial⟩⟩
      · exact .inl ⟨(Nat.le_of_ble_eq_true rfl), _, rfl, AObj.leSame (by first | rfl | exact hb _ (Nat.le_of_ble_eq_true rfl) | exact hob _ (Nat.le_of_ble_eq_true rfl) | (refine open_bd ?_ _ _; exact Nat.le_of_ble_eq_true rfl) | exact pls_bd _ _ | exact hx10 _ (Nat.le_of_ble_eq_true rfl) | exact hx11 _ (Nat.le_of_ble_eq_true rfl) | exact hx12 _ (Nat.le_of_ble_eq_true rfl) | exact hx14 _ (Nat.le_of_ble_eq_true rfl) | exact hx15 _ (Nat.le_of_ble_eq_true rfl) | (refine gE_bd ?_ _; exact Nat.le_of_ble_eq_true rfl))⟩
      · exact .inl ⟨Nat.le_of_ble_eq_true rfl, _, rfl, .cells (.cons .t (.cons (.same rfl) (.cons .t (.cons (.tEq (by simp)) .nil))))⟩
      · exact .inl ⟨(Nat.le_of_ble_eq_true rfl), _, rfl, AObj.leSame (by first | rfl | exact hb _ (Nat.le_of_ble_eq_true rfl) | exact hob _ (Nat.le_of_ble_eq_true rfl) | (refine open_bd ?_ _ _; exact Nat.le_of_ble_eq_true rfl) | exact pls_bd _ _ | exact hx10 _ (Nat.le_of_ble_eq_true rfl) | exact hx11 _ (Nat.le_of_ble_eq_true rfl) | exact hx12 _ (Nat.le_of_ble_eq_true rfl) | exact hx14 _ (Nat.le_of_ble_eq_true rfl) | exact hx15 _ (Nat.le_of_ble_eq_true rfl) | (refine gE_bd ?_ _; exact Nat.le_of_ble_eq_true rfl))⟩
      · exact .inl ⟨Nat.le_of_ble_eq_true rfl, _, rfl, .cells (.cons (.ownEq (by simp [pl_length]) (Nat.le_of_ble_eq_true rfl)) (.cons (.gslEq el rfl (by rw [eq]) (Nat.le_of_ble_eq_true rfl)) (.cons .t (.cons (.same rfl) .nil))))⟩
      · exact .inl ⟨Nat.le_of_ble_eq_true rfl, _, rfl, .fobsPush (ps := ps.map Pl.cs) (by simp; rfl) rfl (pls_bd _ _) (.cons .t (.cons .t (.cons .t (.cons .t (.cons .t (.cons .t (.cons .t (.cons .t (.cons .nilT (.cons .nilT (.cons .t .nil)))))))))))⟩
      · exact .inl ⟨Nat.le_of_ble_eq_true rfl, _, rfl, .groE el (.gE eq fun x => rfl)⟩
      · exact .inl ⟨Nat.le_of_ble_eq_true rfl, _, rfl, .arr (by simp)⟩
  · intro i x r _ g1 gi gd hinv ih
    obtain ⟨rfl, hlt⟩ := pl_at g1
    have hpos : 0 < (pl ps).length := by rw [pl_length]; omega
    obtain ⟨p, hp⟩ : ∃ p, ps[x]? = some p := ⟨_, List.getElem?_eq_getElem hlt⟩
    have hpk := hpo p (List.mem_of_getElem? hp)
    rw [fnd_at hp] at hinv
    refine fR rfl ?_
    refine Run.condT rfl rfl (by simp; omega) ?_
    refine fR rfl ?_
    refine pu rfl ?_
    refine Mid.ldG (x) 0 (sz := 1) rfl rfl (by omega) (by omega) (fun _ => rfl) (g1) rfl rfl ?_
    refine p0 rfl ?_
    refine p0 rfl ?_
    have hpc : (ps.map Pl.cs)[x]? = some p.cs := by simp [hp]
    refine Mid.fast (f := 1) rfl (by (repeat' (first | exact trivial | exact Bool.not_or_self _ | exact grd1 _ | exact grd2 _ | exact grd3 _ _ | exact grd4 _ _ | refine And.intro ?_ ?_ | exact rfl | (simp; done) | (simp <;> omega))); done) ?_
    refine Run.fast (f := 4) rfl (by (repeat' (first | exact trivial | exact Bool.not_or_self _ | exact grd1 _ | exact grd2 _ | exact grd3 _ _ | exact grd4 _ _ | refine And.intro ?_ ?_ | exact rfl | (simp; done) | (simp <;> omega))); done) ?_
    refine Mid.ldFA (cs := p.cs) rfl rfl hpc (by simp [Pl.cs]) rfl rfl ?_
    refine fM rfl ?_
    refine Mid.call (psame_ok H p.rep v hpk.r hv) rfl rfl rfl rfl ?_
    refine fM rfl ?_
    by_cases hsm : sameV p.rep v = true
    · rw [if_pos hsm] at hinv
      have hn : fnd ps v = some x := by simpa using hinv
      have e1 : addAt ps v = x := by simp [addAt, hn]
      have e2 : addPs ps v = ps := by simp [addPs, hn]
      have e3 : addS ps v = 1 := by simp [addS, hn]
      rw [e1, e2, e3]
      refine Run.condT rfl rfl (by simpa using hsm) ?_
      refine fR rfl ?_
      refine Run.condF rfl rfl (by simp) ?_
      refine fR rfl ?_
      refine a64 rfl rfl rfl ?_
      refine fM rfl ?_
      refine apM nE tk [(x : Int)] rfl rfl rfl rfl rfl ?_ (h1 := by first | omega | (simp; omega) | (simp; done)) (h2 := by first | omega | (simp; omega) | (simp; done))
      refine fM rfl ?_
      refine lM rfl rfl rfl ?_
      refine p0 rfl ?_
      refine fM rfl ?_
      refine Run.fin rfl (EndOk.chg rfl rfl ?_ ?_)
      · exact .tup (.cons (.t (congrArg _ ((wrap64 (by first | omega | (simp; omega) | (simp; done)) (by first | omega | (simp; omega) | (simp; done))).trans (by simp)))) (.cons (.t rfl) .nil))
      · refine ⟨?_, ?_, ?_, ?_, ?_, ?_, ?_, ⟨(.inl ⟨Nat.le_of_ble_eq_true rfl, _, rfl, AObj.leSame (hx10 _ (Nat.le_of_ble_eq_true rfl))⟩), (.inl ⟨Nat.le_of_ble_eq_true rfl, _, rfl, AObj.leSame (hx11 _ (Nat.le_of_ble_eq_true rfl))⟩), (.inl ⟨Nat.le_of_ble_eq_true rfl, _, rfl, AObj.leSame (hx12 _ (Nat.le_of_ble_eq_true rfl))⟩), (.inl ⟨Nat.le_of_ble_eq_true rfl, _, rfl, AObj.leSame (hx14 _ (Nat.le_of_ble_eq_true rfl))⟩), (.inl ⟨Nat.le_of_ble_eq_true rfl, _, rfl, AObj.leSame (hx15 _ (Nat.le_of_ble_eq_true rfl))⟩), trivial⟩⟩
        · exact .inl ⟨(Nat.le_of_ble_eq_true rfl), _, rfl, AObj.leSame (by first | rfl | exact hb _ (Nat.le_of_ble_eq_true rfl) | exact hob _ (Nat.le_of_ble_eq_true rfl) | (refine open_bd ?_ _ _; exact Nat.le_of_ble_eq_true rfl) | exact pls_bd _ _ | exact hx10 _ (Nat.le_of_ble_eq_true rfl) | exact hx11 _ (Nat.le_of_ble_eq_true rfl) | exact hx12 _ (Nat.le_of_ble_eq_true rfl) | exact hx14 _ (Nat.le_of_ble_eq_true rfl) | exact hx15 _ (Nat.le_of_ble_eq_true rfl) | (refine gE_bd ?_ _; exact Nat.le_of_ble_eq_true rfl))⟩
        · exact .inl ⟨Nat.le_of_ble_eq_true rfl, _, rfl, .cells (.cons .t (.cons (.same rfl) (.cons .t (.cons (.tEq (by simp)) .nil))))⟩
        · exact .inl ⟨(Nat.le_of_ble_eq_true rfl), _, rfl, AObj.leSame (by first | rfl | exact hb _ (Nat.le_of_ble_eq_true rfl) | exact hob _ (Nat.le_of_ble_eq_true rfl) | (refine open_bd ?_ _ _; exact Nat.le_of_ble_eq_true rfl) | exact pls_bd _ _ | exact hx10 _ (Nat.le_of_ble_eq_true rfl) | exact hx11 _ (Nat.le_of_ble_eq_true rfl) | exact hx12 _ (Nat.le_of_ble_eq_true rfl) | exact hx14 _ (Nat.le_of_ble_eq_true rfl) | exact hx15 _ (Nat.le_of_ble_eq_true rfl) | (refine gE_bd ?_ _; exact Nat.le_of_ble_eq_true rfl))⟩
        · exact .inl ⟨Nat.le_of_ble_eq_true rfl, _, rfl, .cells (.cons (.ownEq (by simp) (Nat.le_of_ble_eq_true rfl)) (.cons (.same rfl) (.cons .t (.cons (.same rfl) .nil))))⟩
        · exact .inl ⟨(Nat.le_of_ble_eq_true rfl), _, rfl, AObj.leSame (by first | rfl | exact hb _ (Nat.le_of_ble_eq_true rfl) | exact hob _ (Nat.le_of_ble_eq_true rfl) | (refine open_bd ?_ _ _; exact Nat.le_of_ble_eq_true rfl) | exact pls_bd _ _ | exact hx10 _ (Nat.le_of_ble_eq_true rfl) | exact hx11 _ (Nat.le_of_ble_eq_true rfl) | exact hx12 _ (Nat.le_of_ble_eq_true rfl) | exact hx14 _ (Nat.le_of_ble_eq_true rfl) | exact hx15 _ (Nat.le_of_ble_eq_true rfl) | (refine gE_bd ?_ _; exact Nat.le_of_ble_eq_true rfl))⟩
        · exact .inl ⟨(Nat.le_of_ble_eq_true rfl), _, rfl, AObj.leSame (by first | rfl | exact hb _ (Nat.le_of_ble_eq_true rfl) | exact hob _ (Nat.le_of_ble_eq_true rfl) | (refine open_bd ?_ _ _; exact Nat.le_of_ble_eq_true rfl) | exact pls_bd _ _ | exact hx10 _ (Nat.le_of_ble_eq_true rfl) | exact hx11 _ (Nat.le_of_ble_eq_true rfl) | exact hx12 _ (Nat.le_of_ble_eq_true rfl) | exact hx14 _ (Nat.le_of_ble_eq_true rfl) | exact hx15 _ (Nat.le_of_ble_eq_true rfl) | (refine gE_bd ?_ _; exact Nat.le_of_ble_eq_true rfl))⟩
        · exact .inl ⟨Nat.le_of_ble_eq_true rfl, _, rfl, .arr (by simp)⟩
    · rw [if_neg hsm] at hinv
      refine Run.condF rfl rfl (by simpa using hsm) ?_
      refine fR rfl ?_
      refine aL rfl rfl rfl rfl rfl ?_
      refine fM rfl ?_
      have hi2 : fnd ps v = Option.map (fun y => y + (x + 1)) (fnd (ps.drop (x + 1)) v) := by
        rw [hinv, Option.map_map]; congr 1; funext y; simp; omega
      exact rWeak 17 rfl (ih () hi2) rfl rfl rfl (he := (by repeat' (first | exact trivial | exact LeX.t | exact LeX.top | exact LeX.nilOwn (Nat.le_of_ble_eq_true rfl) (Nat.le_of_ble_eq_true rfl) | exact LeX.ownT | exact LeX.nilT | exact LeX.same rfl | exact LeX.tEq (by simp) | exact LeX.ownEq (by simp) (Nat.le_of_ble_eq_true rfl) | exact LeX.tEq (by congr 1 <;> omega) | exact Or.inr ⟨Nat.le_of_ble_eq_true rfl, Nat.le_of_ble_eq_true rfl, rfl⟩ | refine Or.inl ⟨Nat.le_of_ble_eq_true rfl, _, rfl, ?_⟩ | refine LeO.cells ?_ | exact LeO.arr rfl | exact LeO.arr (by simp) | exact LeO.mE (by first | rfl | simp) (by first | exact Or.inl rfl | exact Or.inr rfl) | exact LeO.cE (by first | rfl | simp) | exact LeXs.cE (by first | rfl | simp) | refine LeO.map (by first | rfl | simp) ?_ (by first | exact Or.inl rfl | exact Or.inr rfl) | exact LeO.iter (by first | rfl | simp) (Nat.le_of_ble_eq_true rfl) | refine LeXs.cons ?_ ?_ | exact LeXs.nil | refine And.intro ?_ ?_))) (hs := (by repeat' (first | exact trivial | refine And.intro ?_ ?_ | exact Or.inr ⟨Nat.le_of_ble_eq_true rfl, Nat.le_of_ble_eq_true rfl, rfl⟩ | exact Or.inl ⟨(Nat.le_of_ble_eq_true rfl), _, rfl, AObj.leSame (by first | rfl | exact hb _ (Nat.le_of_ble_eq_true rfl) | exact hob _ (Nat.le_of_ble_eq_true rfl) | (refine open_bd ?_ _ _; exact Nat.le_of_ble_eq_true rfl) | exact pls_bd _ _ | exact hx10 _ (Nat.le_of_ble_eq_true rfl) | exact hx11 _ (Nat.le_of_ble_eq_true rfl) | exact hx12 _ (Nat.le_of_ble_eq_true rfl) | exact hx14 _ (Nat.le_of_ble_eq_true rfl) | exact hx15 _ (Nat.le_of_ble_eq_true rfl) | (refine gE_bd ?_ _; exact Nat.le_of_ble_eq_true rfl))⟩)))
end Go.GB.C35


/-
  L35RJ: chapter 35: contracts where another queue stands beside.
-/
namespace Go.GB.C35
open Go.GB
set_option linter.unusedSimpArgs false
set_option linter.unusedVariables false
set_option maxRecDepth 100000
set_option maxHeartbeats 16000000
variable {P : Program}
theorem next_ok2 (H : Pr P) (m c s f : Int) (nx : Nat) (tk : List Int) (ps : List Pl) (es : List (List T × V)) (hc : 0 ≤ c ∧ c < 1000000) (hm : 1 ≤ m ∧ m ≤ 1024) (hpl : ps.length < 1000000) (hnx : nx ≤ ps.length) (hpo : ∀ p, p ∈ ps → p.Ok) (hk : keysOk [.int .i64] es = true) (hg : mget [.int .i64 f] es = some (.ptr 4 0)) (hb : ∀ k, 16 ≤ k → V.bds k (es.map (·.2)) = true) (o10 o11 o12 o14 o15 : AObj) (hx10 : ∀ k, 16 ≤ k → o10.bd k = true) (hx11 : ∀ k, 16 ≤ k → o11.bd k = true) (hx12 : ∀ k, 16 ≤ k → o12.bd k = true) (hx14 : ∀ k, 16 ≤ k → o14.bd k = true) (hx15 : ∀ k, 16 ≤ k → o15.bd k = true) : FnOk P 17 [.ptr 1 0, .t (.int .i64 f)] ⟨[(0, .map false es none), (1, .cells [.t (.int .i64 m), .mp 0, .t (.int .i64 c), .t (.int .i64 s)]), (3, .map false [] none), (4, .cells [.own 8 1 (tk.map nE), .gsl 7 (pl ps).length 0 (pl ps).length 1, .t (.int .i64 nx), .mp 3]), (5, .fobs (ps.map Pl.cs)), (7, .gro (pl ps).length (gE (pE 5) (pl ps))), (8, .arr tk.length), (10, o10), (11, o11), (12, o12), (14, o14), (15, o15)], 16⟩ { v := .tup [.t (.lst ((reps nx (batch m nx ps) ps).map Val.enc)), .t (.bool (decide (nx < ps.length)))], ob := [(1, .cells [.t (.int .i64 m), .mp 0, .t (.int .i64 (c + if nx < ps.length then 1 else 0)), .t (.int .i64 s)]), (3, .map false (openE 5 nx (batch m nx ps)) none), (4, .cells [.own 8 1 (tk.map nE), .gsl 7 (pl ps).length 0 (pl ps).length 1, .t (.int .i64 (nx + batch m nx ps : Nat)), .mp 3])], n := 0, rd := true } := by
  have hsa : stoBd 16 [(0, .map false es none), (1, .cells [.t (.int .i64 m), .mp 0, .t (.int .i64 c), .t (.int .i64 s)]), (3, .map false [] none), (4, .cells [.own 8 1 (tk.map nE), .gsl 7 (pl ps).length 0 (pl ps).length 1, .t (.int .i64 nx), .mp 3]), (5, .fobs (ps.map Pl.cs)), (7, .gro (pl ps).length (gE (pE 5) (pl ps))), (8, .arr tk.length), (10, o10), (11, o11), (12, o12), (14, o14), (15, o15)] = true := (by repeat' (first | exact (rfl : stoBd _ [] = true) | refine stoBd_cons (Nat.le_of_ble_eq_true rfl) ?_ ?_ | exact (by first | rfl | exact hb _ (Nat.le_of_ble_eq_true rfl) | exact hob _ (Nat.le_of_ble_eq_true rfl) | (refine open_bd ?_ _ _; exact Nat.le_of_ble_eq_true rfl) | exact pls_bd _ _ | exact hx10 _ (Nat.le_of_ble_eq_true rfl) | exact hx11 _ (Nat.le_of_ble_eq_true rfl) | exact hx12 _ (Nat.le_of_ble_eq_true rfl) | exact hx14 _ (Nat.le_of_ble_eq_true rfl) | exact hx15 _ (Nat.le_of_ble_eq_true rfl) | (refine gE_bd ?_ _; exact Nat.le_of_ble_eq_true rfl))))
  generalize hk0 : batch m nx ps = k
  have hk1 : k ≤ m := by simp only [batch] at hk0; omega
  have hk2 : nx + k ≤ ps.length := by simp only [batch] at hk0; omega
  have hk3 : k = m ∨ nx + k = ps.length := by simp only [batch] at hk0; omega
  refine FnOk.run H.i17 H.mixed rfl rfl ?_
  refine fR rfl ?_
  refine Mid.callS (none_ga2 H m c s _ _ hsa) rfl rfl hsa rfl ?_
  refine fM rfl ?_
  refine Mid.lookVG (gc := true) (.ptr 4 0) rfl rfl rfl rfl rfl hk (by rw [hg]; rfl) ⟨rfl, trivial⟩ ⟨rfl, trivial⟩ rfl ?_
  refine fM rfl ?_
  refine Run.condF rfl rfl rfl ?_
  refine fR rfl ?_
  refine Mid.lookV (.ptr 4 0) rfl rfl rfl rfl hk (by rw [hg]; rfl) rfl ?_
  refine fM rfl ?_
  refine Mid.lenmV 0 rfl rfl rfl rfl ?_
  refine fM rfl ?_
  refine Run.condT rfl rfl rfl ?_
  skip
  refine rList (List.range k) (fun i (_ : Unit) => { env := [(0, .ptr 1 0), (6, .ptr 4 0)], s := ⟨[(0, .map false es none), (1, .cells [.t (.int .i64 m), .mp 0, .t (.int .i64 c), .t (.int .i64 s)]), (3, .map false (openE 5 nx i) none), (4, .cells [.own 8 1 (tk.map nE), .gsl 7 (pl ps).length 0 (pl ps).length 1, .t (.int .i64 (nx + i : Nat)), .mp 3]), (5, .fobs (ps.map Pl.cs)), (7, .gro (pl ps).length (gE (pE 5) (pl ps))), (8, .arr tk.length), (10, o10), (11, o11), (12, o12), (14, o14), (15, o15)], 16⟩ }) (fun r i _ => True) 16 () rfl trivial rfl rfl rfl ?_ ?_ (he := (by repeat' (first | exact trivial | exact LeX.t | exact LeX.top | exact LeX.nilOwn (Nat.le_of_ble_eq_true rfl) (Nat.le_of_ble_eq_true rfl) | exact LeX.ownT | exact LeX.nilT | exact LeX.same rfl | exact LeX.tEq (by simp) | exact LeX.ownEq (by simp) (Nat.le_of_ble_eq_true rfl) | exact LeX.tEq (by congr 1 <;> omega) | exact Or.inr ⟨Nat.le_of_ble_eq_true rfl, Nat.le_of_ble_eq_true rfl, rfl⟩ | refine Or.inl ⟨Nat.le_of_ble_eq_true rfl, _, rfl, ?_⟩ | refine LeO.cells ?_ | exact LeO.arr rfl | exact LeO.arr (by simp) | exact LeO.mE (by first | rfl | simp) (by first | exact Or.inl rfl | exact Or.inr rfl) | exact LeO.cE (by first | rfl | simp) | exact LeXs.cE (by first | rfl | simp) | refine LeO.map (by first | rfl | simp) ?_ (by first | exact Or.inl rfl | exact Or.inr rfl) | exact LeO.iter (by first | rfl | simp) (Nat.le_of_ble_eq_true rfl) | refine LeXs.cons ?_ ?_ | exact LeXs.nil | refine And.intro ?_ ?_))) (hs := (by repeat' (first | exact trivial | refine And.intro ?_ ?_ | exact Or.inr ⟨Nat.le_of_ble_eq_true rfl, Nat.le_of_ble_eq_true rfl, rfl⟩ | exact Or.inl ⟨(Nat.le_of_ble_eq_true rfl), _, rfl, AObj.leSame (by first | rfl | exact hb _ (Nat.le_of_ble_eq_true rfl) | exact hob _ (Nat.le_of_ble_eq_true rfl) | (refine open_bd ?_ _ _; exact Nat.le_of_ble_eq_true rfl) | exact pls_bd _ _ | exact hx10 _ (Nat.le_of_ble_eq_true rfl) | exact hx11 _ (Nat.le_of_ble_eq_true rfl) | exact hx12 _ (Nat.le_of_ble_eq_true rfl) | exact hx14 _ (Nat.le_of_ble_eq_true rfl) | exact hx15 _ (Nat.le_of_ble_eq_true rfl) | (refine gE_bd ?_ _; exact Nat.le_of_ble_eq_true rfl))⟩)))
  · intro _ hinv
    rw [List.length_range]
    refine fR rfl ?_
    refine Mid.lenmV k rfl rfl (open_len _ _ _) rfl ?_
    refine fM rfl ?_
    refine gr rfl ?_
    refine fM rfl ?_
    refine Run.condF rfl rfl (by simp [pl_length]; intro _; omega) ?_
    refine fR rfl ?_
    refine Mid.lenmV k rfl rfl (open_len _ _ _) rfl ?_
    refine fM rfl ?_
    by_cases hk9 : k = 0
    · refine Run.condT rfl rfl (by simp; omega) ?_
      refine fR rfl ?_
      have hn : nx = ps.length := by omega
      refine Run.fin rfl (EndOk.chg rfl rfl ?_ ?_)
      · exact .tup (.cons (.nil (by subst hk9; simp [reps])) (.cons (.t (by simp [hn])) .nil))
      · refine ⟨?_, ?_, ?_, ?_, ?_, ?_, ?_, ⟨(.inl ⟨Nat.le_of_ble_eq_true rfl, _, rfl, AObj.leSame (hx10 _ (Nat.le_of_ble_eq_true rfl))⟩), (.inl ⟨Nat.le_of_ble_eq_true rfl, _, rfl, AObj.leSame (hx11 _ (Nat.le_of_ble_eq_true rfl))⟩), (.inl ⟨Nat.le_of_ble_eq_true rfl, _, rfl, AObj.leSame (hx12 _ (Nat.le_of_ble_eq_true rfl))⟩), (.inl ⟨Nat.le_of_ble_eq_true rfl, _, rfl, AObj.leSame (hx14 _ (Nat.le_of_ble_eq_true rfl))⟩), (.inl ⟨Nat.le_of_ble_eq_true rfl, _, rfl, AObj.leSame (hx15 _ (Nat.le_of_ble_eq_true rfl))⟩), trivial⟩⟩
        · exact .inl ⟨(Nat.le_of_ble_eq_true rfl), _, rfl, AObj.leSame (by first | rfl | exact hb _ (Nat.le_of_ble_eq_true rfl) | exact hob _ (Nat.le_of_ble_eq_true rfl) | (refine open_bd ?_ _ _; exact Nat.le_of_ble_eq_true rfl) | exact pls_bd _ _ | exact hx10 _ (Nat.le_of_ble_eq_true rfl) | exact hx11 _ (Nat.le_of_ble_eq_true rfl) | exact hx12 _ (Nat.le_of_ble_eq_true rfl) | exact hx14 _ (Nat.le_of_ble_eq_true rfl) | exact hx15 _ (Nat.le_of_ble_eq_true rfl) | (refine gE_bd ?_ _; exact Nat.le_of_ble_eq_true rfl))⟩
        · exact .inl ⟨Nat.le_of_ble_eq_true rfl, _, rfl, .cells (.cons .t (.cons (.same rfl) (.cons (.tEq (by simp [hn])) (.cons .t .nil))))⟩
        · exact .inl ⟨(Nat.le_of_ble_eq_true rfl), _, rfl, AObj.leSame (by first | rfl | exact hb _ (Nat.le_of_ble_eq_true rfl) | exact hob _ (Nat.le_of_ble_eq_true rfl) | (refine open_bd ?_ _ _; exact Nat.le_of_ble_eq_true rfl) | exact pls_bd _ _ | exact hx10 _ (Nat.le_of_ble_eq_true rfl) | exact hx11 _ (Nat.le_of_ble_eq_true rfl) | exact hx12 _ (Nat.le_of_ble_eq_true rfl) | exact hx14 _ (Nat.le_of_ble_eq_true rfl) | exact hx15 _ (Nat.le_of_ble_eq_true rfl) | (refine gE_bd ?_ _; exact Nat.le_of_ble_eq_true rfl))⟩
        · exact .inl ⟨(Nat.le_of_ble_eq_true rfl), _, rfl, AObj.leSame (by first | rfl | exact hb _ (Nat.le_of_ble_eq_true rfl) | exact hob _ (Nat.le_of_ble_eq_true rfl) | (refine open_bd ?_ _ _; exact Nat.le_of_ble_eq_true rfl) | exact pls_bd _ _ | exact hx10 _ (Nat.le_of_ble_eq_true rfl) | exact hx11 _ (Nat.le_of_ble_eq_true rfl) | exact hx12 _ (Nat.le_of_ble_eq_true rfl) | exact hx14 _ (Nat.le_of_ble_eq_true rfl) | exact hx15 _ (Nat.le_of_ble_eq_true rfl) | (refine gE_bd ?_ _; exact Nat.le_of_ble_eq_true rfl))⟩
        · exact .inl ⟨(Nat.le_of_ble_eq_true rfl), _, rfl, AObj.leSame (by first | rfl | exact hb _ (Nat.le_of_ble_eq_true rfl) | exact hob _ (Nat.le_of_ble_eq_true rfl) | (refine open_bd ?_ _ _; exact Nat.le_of_ble_eq_true rfl) | exact pls_bd _ _ | exact hx10 _ (Nat.le_of_ble_eq_true rfl) | exact hx11 _ (Nat.le_of_ble_eq_true rfl) | exact hx12 _ (Nat.le_of_ble_eq_true rfl) | exact hx14 _ (Nat.le_of_ble_eq_true rfl) | exact hx15 _ (Nat.le_of_ble_eq_true rfl) | (refine gE_bd ?_ _; exact Nat.le_of_ble_eq_true rfl))⟩
        · exact .inl ⟨(Nat.le_of_ble_eq_true rfl), _, rfl, AObj.leSame (by first | rfl | exact hb _ (Nat.le_of_ble_eq_true rfl) | exact hob _ (Nat.le_of_ble_eq_true rfl) | (refine open_bd ?_ _ _; exact Nat.le_of_ble_eq_true rfl) | exact pls_bd _ _ | exact hx10 _ (Nat.le_of_ble_eq_true rfl) | exact hx11 _ (Nat.le_of_ble_eq_true rfl) | exact hx12 _ (Nat.le_of_ble_eq_true rfl) | exact hx14 _ (Nat.le_of_ble_eq_true rfl) | exact hx15 _ (Nat.le_of_ble_eq_true rfl) | (refine gE_bd ?_ _; exact Nat.le_of_ble_eq_true rfl))⟩
        · exact .inl ⟨(Nat.le_of_ble_eq_true rfl), _, rfl, AObj.leSame (by first | rfl | exact hb _ (Nat.le_of_ble_eq_true rfl) | exact hob _ (Nat.le_of_ble_eq_true rfl) | (refine open_bd ?_ _ _; exact Nat.le_of_ble_eq_true rfl) | exact pls_bd _ _ | exact hx10 _ (Nat.le_of_ble_eq_true rfl) | exact hx11 _ (Nat.le_of_ble_eq_true rfl) | exact hx12 _ (Nat.le_of_ble_eq_true rfl) | exact hx14 _ (Nat.le_of_ble_eq_true rfl) | exact hx15 _ (Nat.le_of_ble_eq_true rfl) | (refine gE_bd ?_ _; exact Nat.le_of_ble_eq_true rfl))⟩
    · have hl : (reps nx k ps).length = k := by simp [reps]; omega
      have hlt : nx < ps.length := by omega
      refine Run.condF rfl rfl (by simp; omega) ?_
      refine fR rfl ?_
      refine a64 rfl rfl rfl ?_
      refine fM rfl ?_
      refine Mid.lenmV k rfl rfl (open_len _ _ _) rfl ?_
      refine fM rfl ?_
      refine rList (reps nx k ps) (fun i (B : List Val) => { env := [(6, .ptr 4 0), (7, .own 16 5 (B.map Val.enc)), (97, .t (.int .i64 k)), (98, .t (.int .i64 i))], s := ⟨[(0, .map false es none), (1, .cells [.t (.int .i64 m), .mp 0, .t (.int .i64 (c + 1)), .t (.int .i64 s)]), (3, .map false (openE 5 nx k) none), (4, .cells [.own 8 1 (tk.map nE), .gsl 7 (pl ps).length 0 (pl ps).length 1, .t (.int .i64 (nx + k : Nat)), .mp 3]), (5, .fobs (ps.map Pl.cs)), (7, .gro (pl ps).length (gE (pE 5) (pl ps))), (8, .arr tk.length), (10, o10), (11, o11), (12, o12), (14, o14), (15, o15), (16, .arr B.length)], 17⟩ }) (fun r i B => B.length = i ∧ B ++ r = reps nx k ps) 16 [] rfl ⟨rfl, rfl⟩ rfl rfl rfl ?_ ?_ (hs := (by repeat' (first | exact trivial | refine And.intro ?_ ?_ | exact Or.inr ⟨Nat.le_of_ble_eq_true rfl, Nat.le_of_ble_eq_true rfl, rfl⟩ | exact Or.inl ⟨(Nat.le_of_ble_eq_true rfl), _, rfl, AObj.leSame (by first | rfl | exact hb _ (Nat.le_of_ble_eq_true rfl) | exact hob _ (Nat.le_of_ble_eq_true rfl) | (refine open_bd ?_ _ _; exact Nat.le_of_ble_eq_true rfl) | exact pls_bd _ _ | exact hx10 _ (Nat.le_of_ble_eq_true rfl) | exact hx11 _ (Nat.le_of_ble_eq_true rfl) | exact hx12 _ (Nat.le_of_ble_eq_true rfl) | exact hx14 _ (Nat.le_of_ble_eq_true rfl) | exact hx15 _ (Nat.le_of_ble_eq_true rfl) | (refine gE_bd ?_ _; exact Nat.le_of_ble_eq_true rfl))⟩)))
      · rintro B ⟨hBl, hB⟩
        have e : B = reps nx k ps := by rw [← hB]; simp
        refine fR rfl ?_
        refine Run.condF rfl rfl (by simp; omega) ?_
        refine fR rfl ?_
        refine Run.fin rfl (EndOk.chg rfl rfl ?_ ?_)
        · exact .tup (.cons (.own (by rw [e])) (.cons (.t (by simp [hlt])) .nil))
        · refine ⟨?_, ?_, ?_, ?_, ?_, ?_, ?_, ⟨(.inl ⟨Nat.le_of_ble_eq_true rfl, _, rfl, AObj.leSame (hx10 _ (Nat.le_of_ble_eq_true rfl))⟩), (.inl ⟨Nat.le_of_ble_eq_true rfl, _, rfl, AObj.leSame (hx11 _ (Nat.le_of_ble_eq_true rfl))⟩), (.inl ⟨Nat.le_of_ble_eq_true rfl, _, rfl, AObj.leSame (hx12 _ (Nat.le_of_ble_eq_true rfl))⟩), (.inl ⟨Nat.le_of_ble_eq_true rfl, _, rfl, AObj.leSame (hx14 _ (Nat.le_of_ble_eq_true rfl))⟩), (.inl ⟨Nat.le_of_ble_eq_true rfl, _, rfl, AObj.leSame (hx15 _ (Nat.le_of_ble_eq_true rfl))⟩), trivial⟩⟩
          · exact .inl ⟨(Nat.le_of_ble_eq_true rfl), _, rfl, AObj.leSame (by first | rfl | exact hb _ (Nat.le_of_ble_eq_true rfl) | exact hob _ (Nat.le_of_ble_eq_true rfl) | (refine open_bd ?_ _ _; exact Nat.le_of_ble_eq_true rfl) | exact pls_bd _ _ | exact hx10 _ (Nat.le_of_ble_eq_true rfl) | exact hx11 _ (Nat.le_of_ble_eq_true rfl) | exact hx12 _ (Nat.le_of_ble_eq_true rfl) | exact hx14 _ (Nat.le_of_ble_eq_true rfl) | exact hx15 _ (Nat.le_of_ble_eq_true rfl) | (refine gE_bd ?_ _; exact Nat.le_of_ble_eq_true rfl))⟩
          · exact .inl ⟨Nat.le_of_ble_eq_true rfl, _, rfl, .cells (.cons .t (.cons (.same rfl) (.cons (.tEq (by simp [hlt])) (.cons .t .nil))))⟩
          · exact .inl ⟨(Nat.le_of_ble_eq_true rfl), _, rfl, AObj.leSame (by first | rfl | exact hb _ (Nat.le_of_ble_eq_true rfl) | exact hob _ (Nat.le_of_ble_eq_true rfl) | (refine open_bd ?_ _ _; exact Nat.le_of_ble_eq_true rfl) | exact pls_bd _ _ | exact hx10 _ (Nat.le_of_ble_eq_true rfl) | exact hx11 _ (Nat.le_of_ble_eq_true rfl) | exact hx12 _ (Nat.le_of_ble_eq_true rfl) | exact hx14 _ (Nat.le_of_ble_eq_true rfl) | exact hx15 _ (Nat.le_of_ble_eq_true rfl) | (refine gE_bd ?_ _; exact Nat.le_of_ble_eq_true rfl))⟩
          · exact .inl ⟨(Nat.le_of_ble_eq_true rfl), _, rfl, AObj.leSame (by first | rfl | exact hb _ (Nat.le_of_ble_eq_true rfl) | exact hob _ (Nat.le_of_ble_eq_true rfl) | (refine open_bd ?_ _ _; exact Nat.le_of_ble_eq_true rfl) | exact pls_bd _ _ | exact hx10 _ (Nat.le_of_ble_eq_true rfl) | exact hx11 _ (Nat.le_of_ble_eq_true rfl) | exact hx12 _ (Nat.le_of_ble_eq_true rfl) | exact hx14 _ (Nat.le_of_ble_eq_true rfl) | exact hx15 _ (Nat.le_of_ble_eq_true rfl) | (refine gE_bd ?_ _; exact Nat.le_of_ble_eq_true rfl))⟩
          · exact .inl ⟨(Nat.le_of_ble_eq_true rfl), _, rfl, AObj.leSame (by first | rfl | exact hb _ (Nat.le_of_ble_eq_true rfl) | exact hob _ (Nat.le_of_ble_eq_true rfl) | (refine open_bd ?_ _ _; exact Nat.le_of_ble_eq_true rfl) | exact pls_bd _ _ | exact hx10 _ (Nat.le_of_ble_eq_true rfl) | exact hx11 _ (Nat.le_of_ble_eq_true rfl) | exact hx12 _ (Nat.le_of_ble_eq_true rfl) | exact hx14 _ (Nat.le_of_ble_eq_true rfl) | exact hx15 _ (Nat.le_of_ble_eq_true rfl) | (refine gE_bd ?_ _; exact Nat.le_of_ble_eq_true rfl))⟩
          · exact .inl ⟨(Nat.le_of_ble_eq_true rfl), _, rfl, AObj.leSame (by first | rfl | exact hb _ (Nat.le_of_ble_eq_true rfl) | exact hob _ (Nat.le_of_ble_eq_true rfl) | (refine open_bd ?_ _ _; exact Nat.le_of_ble_eq_true rfl) | exact pls_bd _ _ | exact hx10 _ (Nat.le_of_ble_eq_true rfl) | exact hx11 _ (Nat.le_of_ble_eq_true rfl) | exact hx12 _ (Nat.le_of_ble_eq_true rfl) | exact hx14 _ (Nat.le_of_ble_eq_true rfl) | exact hx15 _ (Nat.le_of_ble_eq_true rfl) | (refine gE_bd ?_ _; exact Nat.le_of_ble_eq_true rfl))⟩
          · exact .inl ⟨(Nat.le_of_ble_eq_true rfl), _, rfl, AObj.leSame (by first | rfl | exact hb _ (Nat.le_of_ble_eq_true rfl) | exact hob _ (Nat.le_of_ble_eq_true rfl) | (refine open_bd ?_ _ _; exact Nat.le_of_ble_eq_true rfl) | exact pls_bd _ _ | exact hx10 _ (Nat.le_of_ble_eq_true rfl) | exact hx11 _ (Nat.le_of_ble_eq_true rfl) | exact hx12 _ (Nat.le_of_ble_eq_true rfl) | exact hx14 _ (Nat.le_of_ble_eq_true rfl) | exact hx15 _ (Nat.le_of_ble_eq_true rfl) | (refine gE_bd ?_ _; exact Nat.le_of_ble_eq_true rfl))⟩
      · rintro i v r B h1 hi hd ⟨hBl, hB⟩ ih
        have hBl' : B.length = i := hBl
        obtain ⟨p, hp, rfl, hik⟩ := reps_at h1
        have hpk := hpo p (List.mem_of_getElem? hp)
        have hpc : (ps.map Pl.cs)[nx + i]? = some p.cs := by simp [hp]
        refine fR rfl ?_
        refine Run.condT rfl rfl (by simp; omega) ?_
        refine fR rfl ?_
        refine Mid.lookV (.fpt 5 (nx + i) 0) rfl rfl rfl rfl (open_keys _ _ _) (by rw [mget_open hik]; rfl) rfl ?_
        refine Mid.fast (f := 2) rfl (by (repeat' (first | exact trivial | exact Bool.not_or_self _ | exact grd1 _ | exact grd2 _ | exact grd3 _ _ | exact grd4 _ _ | refine And.intro ?_ ?_ | exact rfl | (simp; done) | (simp <;> omega))); done) ?_
        refine Mid.ldFA (cs := p.cs) rfl rfl hpc (by simp [Pl.cs]) rfl rfl ?_
        skip
        refine Mid.call (copy_ok H p.rep hpk.r) rfl rfl rfl rfl ?_
        refine fM rfl ?_
        refine apM Val.enc B [p.rep] rfl (congrArg (fun c => some (T.lst [c])) (Val.enc_eq p.rep).symm) rfl rfl rfl ?_ (hl := fun x => (congrArg List.length (Val.enc_eq x)).trans rfl)
        refine fM rfl ?_
        refine aL rfl rfl rfl rfl rfl ?_
        refine fM rfl ?_
        exact rWeak 17 rfl (ih (B ++ [p.rep]) ⟨by simp; omega, by rw [← hB]; simp⟩) rfl rfl rfl (hs := (by repeat' (first | exact trivial | refine And.intro ?_ ?_ | exact Or.inl ⟨(Nat.le_of_ble_eq_true rfl), _, rfl, LeO.arr (by simp)⟩ | exact Or.inr ⟨Nat.le_of_ble_eq_true rfl, Nat.le_of_ble_eq_true rfl, rfl⟩ | exact Or.inl ⟨(Nat.le_of_ble_eq_true rfl), _, rfl, AObj.leSame (by first | rfl | exact hb _ (Nat.le_of_ble_eq_true rfl) | exact hob _ (Nat.le_of_ble_eq_true rfl) | (refine open_bd ?_ _ _; exact Nat.le_of_ble_eq_true rfl) | exact pls_bd _ _ | exact hx10 _ (Nat.le_of_ble_eq_true rfl) | exact hx11 _ (Nat.le_of_ble_eq_true rfl) | exact hx12 _ (Nat.le_of_ble_eq_true rfl) | exact hx14 _ (Nat.le_of_ble_eq_true rfl) | exact hx15 _ (Nat.le_of_ble_eq_true rfl) | (refine gE_bd ?_ _; exact Nat.le_of_ble_eq_true rfl))⟩)))
  · intro i x r _ g1 gi gd hinv ih
    obtain ⟨rfl, _⟩ : x = i ∧ i < k := by
      obtain ⟨h1, h2⟩ := List.getElem?_eq_some_iff.1 g1
      simp only [List.getElem_range] at h2
      exact ⟨h2.symm, by simpa using h1⟩
    have hpos : 0 < (pl ps).length := by rw [pl_length]; omega
    have hix : nx + x < (pl ps).length := by rw [pl_length]; omega
    refine fR rfl ?_
    refine Mid.lenmV x rfl rfl (open_len _ _ _) rfl ?_
    refine fM rfl ?_
    refine gr rfl ?_
    refine fM rfl ?_
    refine Run.condT rfl rfl (by simp [pl_length]; omega) ?_
    refine fR rfl ?_
    refine Mid.lenmV x rfl rfl (open_len _ _ _) rfl ?_
    refine fM rfl ?_
    refine pu rfl ?_
    refine Mid.ldG ((nx + x)) 0 (sz := 1) rfl rfl (by omega) (by omega) (fun _ => rfl) (pl_some (by omega)) rfl rfl ?_
    skip
    refine Mid.mapV (es' := openE 5 nx (x + 1)) rfl rfl rfl (open_keys _ _ _) (mset_open _ _ _) rfl ?_
    refine fM rfl ?_
    refine aL rfl rfl rfl rfl rfl ?_
    refine fM rfl ?_
    exact rWeak 16 rfl (ih () trivial) rfl rfl rfl (he := (by repeat' (first | exact trivial | exact LeX.t | exact LeX.top | exact LeX.nilOwn (Nat.le_of_ble_eq_true rfl) (Nat.le_of_ble_eq_true rfl) | exact LeX.ownT | exact LeX.nilT | exact LeX.same rfl | exact LeX.tEq (by simp) | exact LeX.ownEq (by simp) (Nat.le_of_ble_eq_true rfl) | exact LeX.tEq (by congr 1 <;> omega) | exact Or.inr ⟨Nat.le_of_ble_eq_true rfl, Nat.le_of_ble_eq_true rfl, rfl⟩ | refine Or.inl ⟨Nat.le_of_ble_eq_true rfl, _, rfl, ?_⟩ | refine LeO.cells ?_ | exact LeO.arr rfl | exact LeO.arr (by simp) | exact LeO.mE (by first | rfl | simp) (by first | exact Or.inl rfl | exact Or.inr rfl) | exact LeO.cE (by first | rfl | simp) | exact LeXs.cE (by first | rfl | simp) | refine LeO.map (by first | rfl | simp) ?_ (by first | exact Or.inl rfl | exact Or.inr rfl) | exact LeO.iter (by first | rfl | simp) (Nat.le_of_ble_eq_true rfl) | refine LeXs.cons ?_ ?_ | exact LeXs.nil | refine And.intro ?_ ?_))) (hs := (by repeat' (first | exact trivial | refine And.intro ?_ ?_ | exact Or.inr ⟨Nat.le_of_ble_eq_true rfl, Nat.le_of_ble_eq_true rfl, rfl⟩ | exact Or.inl ⟨(Nat.le_of_ble_eq_true rfl), _, rfl, AObj.leSame (by first | rfl | exact hb _ (Nat.le_of_ble_eq_true rfl) | exact hob _ (Nat.le_of_ble_eq_true rfl) | (refine open_bd ?_ _ _; exact Nat.le_of_ble_eq_true rfl) | exact pls_bd _ _ | exact hx10 _ (Nat.le_of_ble_eq_true rfl) | exact hx11 _ (Nat.le_of_ble_eq_true rfl) | exact hx12 _ (Nat.le_of_ble_eq_true rfl) | exact hx14 _ (Nat.le_of_ble_eq_true rfl) | exact hx15 _ (Nat.le_of_ble_eq_true rfl) | (refine gE_bd ?_ _; exact Nat.le_of_ble_eq_true rfl))⟩)))
end Go.GB.C35


/-
  L35RK: chapter 35: contracts where another queue stands beside.
-/
namespace Go.GB.C35
open Go.GB
set_option linter.unusedSimpArgs false
set_option linter.unusedVariables false
set_option maxRecDepth 100000
set_option maxHeartbeats 16000000
variable {P : Program}
theorem done_ok2 (H : Pr P) (m c s f : Int) (nx lo : Nat) (tk : List Int) (ps : List Pl) (rs : List Val) (es : List (List T × V)) (hr0 : 0 < rs.length) (hrs : ∀ v, v ∈ rs → v.Ok) (hrl : rs.length < 1000000) (hpl : ps.length < 1000000) (hlo : lo + rs.length ≤ ps.length) (hpo : ∀ p, p ∈ ps → p.Ok) (hk : keysOk [.int .i64] es = true) (hg : mget [.int .i64 f] es = some (.ptr 4 0)) (hb : ∀ k, 16 ≤ k → V.bds k (es.map (·.2)) = true) (o10 o11 o12 o14 o15 : AObj) (hx10 : ∀ k, 16 ≤ k → o10.bd k = true) (hx11 : ∀ k, 16 ≤ k → o11.bd k = true) (hx12 : ∀ k, 16 ≤ k → o12.bd k = true) (hx14 : ∀ k, 16 ≤ k → o14.bd k = true) (hx15 : ∀ k, 16 ≤ k → o15.bd k = true) : FnOk P 18 [.ptr 1 0, .t (.int .i64 f), .t (.lst (rs.map Val.enc))] ⟨[(0, .map false es none), (1, .cells [.t (.int .i64 m), .mp 0, .t (.int .i64 c), .t (.int .i64 s)]), (3, .map false (openE 5 lo rs.length) none), (4, .cells [.own 8 1 (tk.map nE), .gsl 7 (pl ps).length 0 (pl ps).length 1, .t (.int .i64 nx), .mp 3]), (5, .fobs (ps.map Pl.cs)), (7, .gro (pl ps).length (gE (pE 5) (pl ps))), (8, .arr tk.length), (10, o10), (11, o11), (12, o12), (14, o14), (15, o15)], 16⟩ { v := .t (.int .i64 0), ob := [(3, .map false [] none), (4, .cells [.own 8 1 (tk.map nE), .gsl 7 (pl (setR ps lo rs)).length 0 (pl (setR ps lo rs)).length 1, .t (.int .i64 (nx : Nat)), .mp 3]), (5, .fobs ((setR ps lo rs).map Pl.cs)), (7, .gro (pl (setR ps lo rs)).length (gE (pE 5) (pl (setR ps lo rs))))], n := 0, rd := true } := by
  have hsa : stoBd 16 [(0, .map false es none), (1, .cells [.t (.int .i64 m), .mp 0, .t (.int .i64 c), .t (.int .i64 s)]), (3, .map false (openE 5 lo rs.length) none), (4, .cells [.own 8 1 (tk.map nE), .gsl 7 (pl ps).length 0 (pl ps).length 1, .t (.int .i64 nx), .mp 3]), (5, .fobs (ps.map Pl.cs)), (7, .gro (pl ps).length (gE (pE 5) (pl ps))), (8, .arr tk.length), (10, o10), (11, o11), (12, o12), (14, o14), (15, o15)] = true := (by repeat' (first | exact (rfl : stoBd _ [] = true) | refine stoBd_cons (Nat.le_of_ble_eq_true rfl) ?_ ?_ | exact (by first | rfl | exact hb _ (Nat.le_of_ble_eq_true rfl) | exact hob _ (Nat.le_of_ble_eq_true rfl) | (refine open_bd ?_ _ _; exact Nat.le_of_ble_eq_true rfl) | exact pls_bd _ _ | exact hx10 _ (Nat.le_of_ble_eq_true rfl) | exact hx11 _ (Nat.le_of_ble_eq_true rfl) | exact hx12 _ (Nat.le_of_ble_eq_true rfl) | exact hx14 _ (Nat.le_of_ble_eq_true rfl) | exact hx15 _ (Nat.le_of_ble_eq_true rfl) | (refine gE_bd ?_ _; exact Nat.le_of_ble_eq_true rfl))))
  have hne : rs ≠ [] := by rintro rfl; simp at hr0
  refine FnOk.run H.i18 H.mixed rfl rfl ?_
  refine fR rfl ?_
  refine Mid.callS (none_ga2 H m c s _ _ hsa) rfl rfl hsa rfl ?_
  refine fM rfl ?_
  refine Run.condF rfl rfl rfl ?_
  refine fR rfl ?_
  refine Mid.lookV (.ptr 4 0) rfl rfl rfl rfl hk (by rw [hg]; rfl) rfl ?_
  refine fM rfl ?_
  refine Mid.lookVG (gc := true) (.ptr 4 0) rfl rfl rfl rfl rfl hk (by rw [hg]; rfl) ⟨rfl, trivial⟩ ⟨rfl, trivial⟩ rfl ?_
  refine fM rfl ?_
  refine Mid.ungd rfl rfl rfl ?_
  refine Mid.lenmV rs.length rfl rfl (open_len _ _ _) rfl ?_
  refine fM rfl ?_
  refine Run.condF rfl rfl (by simp [hne]) ?_
  refine fR rfl ?_
  refine Mid.lookV (.ptr 4 0) rfl rfl rfl rfl hk (by rw [hg]; rfl) rfl ?_
  refine fM rfl ?_
  refine lM rfl rfl rfl ?_
  refine fM rfl ?_
  refine Mid.lenmV rs.length rfl rfl (open_len _ _ _) rfl ?_
  refine fM rfl ?_
  refine Run.condF rfl rfl (by simp) ?_
  refine fR rfl ?_
  refine lM rfl rfl rfl ?_
  refine fM rfl ?_
  refine rList rs (fun i (B : List Pl) => { env := [(7, .ptr 4 0), (48, .t (.lst (rs.map Val.enc))), (49, .t (.int .i64 rs.length)), (50, .t (.int .i64 i))], s := ⟨[(0, .map false es none), (1, .cells [.t (.int .i64 m), .mp 0, .t (.int .i64 c), .t (.int .i64 s)]), (3, .map false (openE 5 lo rs.length) none), (4, .cells [.own 8 1 (tk.map nE), .gsl 7 (pl ps).length 0 (pl ps).length 1, .t (.int .i64 nx), .mp 3]), (5, .fobs (B.map Pl.cs)), (7, .gro (pl ps).length (gE (pE 5) (pl ps))), (8, .arr tk.length), (10, o10), (11, o11), (12, o12), (14, o14), (15, o15)], 16⟩ }) (fun r i B => setR B (lo + i) r = setR ps lo rs ∧ pl B = pl ps ∧ ∀ p, p ∈ B → p.Ok) 16 ps rfl ⟨rfl, rfl, hpo⟩ rfl rfl rfl ?_ ?_ (he := (by repeat' (first | exact trivial | exact LeX.t | exact LeX.top | exact LeX.nilOwn (Nat.le_of_ble_eq_true rfl) (Nat.le_of_ble_eq_true rfl) | exact LeX.ownT | exact LeX.nilT | exact LeX.same rfl | exact LeX.tEq (by simp) | exact LeX.ownEq (by simp) (Nat.le_of_ble_eq_true rfl) | exact LeX.tEq (by congr 1 <;> omega) | exact Or.inr ⟨Nat.le_of_ble_eq_true rfl, Nat.le_of_ble_eq_true rfl, rfl⟩ | refine Or.inl ⟨Nat.le_of_ble_eq_true rfl, _, rfl, ?_⟩ | refine LeO.cells ?_ | exact LeO.arr rfl | exact LeO.arr (by simp) | exact LeO.mE (by first | rfl | simp) (by first | exact Or.inl rfl | exact Or.inr rfl) | exact LeO.cE (by first | rfl | simp) | exact LeXs.cE (by first | rfl | simp) | refine LeO.map (by first | rfl | simp) ?_ (by first | exact Or.inl rfl | exact Or.inr rfl) | exact LeO.iter (by first | rfl | simp) (Nat.le_of_ble_eq_true rfl) | refine LeXs.cons ?_ ?_ | exact LeXs.nil | refine And.intro ?_ ?_))) (hs := (by repeat' (first | exact trivial | refine And.intro ?_ ?_ | exact Or.inr ⟨Nat.le_of_ble_eq_true rfl, Nat.le_of_ble_eq_true rfl, rfl⟩ | exact Or.inl ⟨(Nat.le_of_ble_eq_true rfl), _, rfl, AObj.leSame (by first | rfl | exact hb _ (Nat.le_of_ble_eq_true rfl) | exact hob _ (Nat.le_of_ble_eq_true rfl) | (refine open_bd ?_ _ _; exact Nat.le_of_ble_eq_true rfl) | exact pls_bd _ _ | exact hx10 _ (Nat.le_of_ble_eq_true rfl) | exact hx11 _ (Nat.le_of_ble_eq_true rfl) | exact hx12 _ (Nat.le_of_ble_eq_true rfl) | exact hx14 _ (Nat.le_of_ble_eq_true rfl) | exact hx15 _ (Nat.le_of_ble_eq_true rfl) | (refine gE_bd ?_ _; exact Nat.le_of_ble_eq_true rfl))⟩)))
  · rintro B ⟨e1, e2, e3⟩
    simp only [setR] at e1
    refine fR rfl ?_
    refine Run.condF rfl rfl (by simp) ?_
    refine fR rfl ?_
    refine Mid.clrV rfl rfl rfl ?_
    refine fM rfl ?_
    refine Run.fin rfl (EndOk.chg rfl rfl ?_ ?_)
    · exact .t rfl
    · refine ⟨?_, ?_, ?_, ?_, ?_, ?_, ?_, ⟨(.inl ⟨Nat.le_of_ble_eq_true rfl, _, rfl, AObj.leSame (hx10 _ (Nat.le_of_ble_eq_true rfl))⟩), (.inl ⟨Nat.le_of_ble_eq_true rfl, _, rfl, AObj.leSame (hx11 _ (Nat.le_of_ble_eq_true rfl))⟩), (.inl ⟨Nat.le_of_ble_eq_true rfl, _, rfl, AObj.leSame (hx12 _ (Nat.le_of_ble_eq_true rfl))⟩), (.inl ⟨Nat.le_of_ble_eq_true rfl, _, rfl, AObj.leSame (hx14 _ (Nat.le_of_ble_eq_true rfl))⟩), (.inl ⟨Nat.le_of_ble_eq_true rfl, _, rfl, AObj.leSame (hx15 _ (Nat.le_of_ble_eq_true rfl))⟩), trivial⟩⟩
      · exact .inl ⟨(Nat.le_of_ble_eq_true rfl), _, rfl, AObj.leSame (by first | rfl | exact hb _ (Nat.le_of_ble_eq_true rfl) | exact hob _ (Nat.le_of_ble_eq_true rfl) | (refine open_bd ?_ _ _; exact Nat.le_of_ble_eq_true rfl) | exact pls_bd _ _ | exact hx10 _ (Nat.le_of_ble_eq_true rfl) | exact hx11 _ (Nat.le_of_ble_eq_true rfl) | exact hx12 _ (Nat.le_of_ble_eq_true rfl) | exact hx14 _ (Nat.le_of_ble_eq_true rfl) | exact hx15 _ (Nat.le_of_ble_eq_true rfl) | (refine gE_bd ?_ _; exact Nat.le_of_ble_eq_true rfl))⟩
      · exact .inl ⟨(Nat.le_of_ble_eq_true rfl), _, rfl, AObj.leSame (by first | rfl | exact hb _ (Nat.le_of_ble_eq_true rfl) | exact hob _ (Nat.le_of_ble_eq_true rfl) | (refine open_bd ?_ _ _; exact Nat.le_of_ble_eq_true rfl) | exact pls_bd _ _ | exact hx10 _ (Nat.le_of_ble_eq_true rfl) | exact hx11 _ (Nat.le_of_ble_eq_true rfl) | exact hx12 _ (Nat.le_of_ble_eq_true rfl) | exact hx14 _ (Nat.le_of_ble_eq_true rfl) | exact hx15 _ (Nat.le_of_ble_eq_true rfl) | (refine gE_bd ?_ _; exact Nat.le_of_ble_eq_true rfl))⟩
      · exact .inl ⟨(Nat.le_of_ble_eq_true rfl), _, rfl, AObj.leSame (by first | rfl | exact hb _ (Nat.le_of_ble_eq_true rfl) | exact hob _ (Nat.le_of_ble_eq_true rfl) | (refine open_bd ?_ _ _; exact Nat.le_of_ble_eq_true rfl) | exact pls_bd _ _ | exact hx10 _ (Nat.le_of_ble_eq_true rfl) | exact hx11 _ (Nat.le_of_ble_eq_true rfl) | exact hx12 _ (Nat.le_of_ble_eq_true rfl) | exact hx14 _ (Nat.le_of_ble_eq_true rfl) | exact hx15 _ (Nat.le_of_ble_eq_true rfl) | (refine gE_bd ?_ _; exact Nat.le_of_ble_eq_true rfl))⟩
      · exact .inl ⟨Nat.le_of_ble_eq_true rfl, _, rfl, by rw [pl_setR]; exact AObj.leSame rfl⟩
      · exact .inl ⟨Nat.le_of_ble_eq_true rfl, _, rfl, by rw [← e1]; exact AObj.leSame (pls_bd _ _)⟩
      · exact .inl ⟨Nat.le_of_ble_eq_true rfl, _, rfl, by rw [pl_setR]; exact AObj.leSame (by first | rfl | exact hb _ (Nat.le_of_ble_eq_true rfl) | exact hob _ (Nat.le_of_ble_eq_true rfl) | (refine open_bd ?_ _ _; exact Nat.le_of_ble_eq_true rfl) | exact pls_bd _ _ | exact hx10 _ (Nat.le_of_ble_eq_true rfl) | exact hx11 _ (Nat.le_of_ble_eq_true rfl) | exact hx12 _ (Nat.le_of_ble_eq_true rfl) | exact hx14 _ (Nat.le_of_ble_eq_true rfl) | exact hx15 _ (Nat.le_of_ble_eq_true rfl) | (refine gE_bd ?_ _; exact Nat.le_of_ble_eq_true rfl))⟩
      · exact .inl ⟨(Nat.le_of_ble_eq_true rfl), _, rfl, AObj.leSame (by first | rfl | exact hb _ (Nat.le_of_ble_eq_true rfl) | exact hob _ (Nat.le_of_ble_eq_true rfl) | (refine open_bd ?_ _ _; exact Nat.le_of_ble_eq_true rfl) | exact pls_bd _ _ | exact hx10 _ (Nat.le_of_ble_eq_true rfl) | exact hx11 _ (Nat.le_of_ble_eq_true rfl) | exact hx12 _ (Nat.le_of_ble_eq_true rfl) | exact hx14 _ (Nat.le_of_ble_eq_true rfl) | exact hx15 _ (Nat.le_of_ble_eq_true rfl) | (refine gE_bd ?_ _; exact Nat.le_of_ble_eq_true rfl))⟩
  · rintro i v r B h1 hi hd ⟨e1, e2, e3⟩ ih
    have hvk := hrs v (List.mem_of_getElem? h1)
    have hlen : B.length = ps.length := by rw [← pl_length B, e2, pl_length]
    obtain ⟨p, hp⟩ : ∃ p, B[lo + i]? = some p := ⟨_, List.getElem?_eq_getElem (by omega)⟩
    have hpc : (B.map Pl.cs)[lo + i]? = some p.cs := by simp [hp]
    refine fR rfl ?_
    refine Run.condT rfl rfl (by simp; omega) ?_
    refine fR rfl ?_
    refine Mid.elemMapC (Val.enc_eq v) rfl rfl rfl h1 rfl rfl ?_
    refine fM rfl ?_
    refine Mid.lookV (.fpt 5 (lo + i) 0) rfl rfl rfl rfl (open_keys _ _ _) (by rw [mget_open hi]; rfl) rfl ?_
    refine fM rfl ?_
    refine Mid.lookV (.fpt 5 (lo + i) 0) rfl rfl rfl rfl (open_keys _ _ _) (by rw [mget_open hi]; rfl) rfl ?_
    refine fM rfl ?_
    refine Mid.call (copy_ok H v hvk) rfl rfl rfl rfl ?_
    refine Mid.fast (f := 2) rfl (by (repeat' (first | exact trivial | exact Bool.not_or_self _ | exact grd1 _ | exact grd2 _ | exact grd3 _ _ | exact grd4 _ _ | refine And.intro ?_ ?_ | exact rfl | (simp; done) | (simp <;> omega))); done) ?_
    refine Mid.stF (os := B.map Pl.cs) (cs := p.cs) rfl rfl hpc rfl rfl (by simp [Pl.cs]) rfl rfl ?_
    refine Mid.fast (f := 2) rfl (by (repeat' (first | exact trivial | exact Bool.not_or_self _ | exact grd1 _ | exact grd2 _ | exact grd3 _ _ | exact grd4 _ _ | refine And.intro ?_ ?_ | exact rfl | (simp; done) | (simp <;> omega))); done) ?_
    have hlt : lo + i < (B.map Pl.cs).length := by simp; omega
    refine Mid.stF rfl rfl (List.getElem?_set_self hlt) rfl rfl (Nat.le_of_ble_eq_true rfl) rfl rfl ?_
    refine fM rfl ?_
    refine aL rfl rfl rfl rfl rfl ?_
    refine fM rfl ?_
    simp only [setR] at e1
    exact rWeak 16 rfl (ih (upd B (lo + i) v) ⟨e1, by rw [pl_upd, e2], upd_ok hvk e3⟩) rfl rfl rfl (he := (by repeat' (first | exact trivial | exact LeX.t | exact LeX.top | exact LeX.nilOwn (Nat.le_of_ble_eq_true rfl) (Nat.le_of_ble_eq_true rfl) | exact LeX.ownT | exact LeX.nilT | exact LeX.same rfl | exact LeX.tEq (by simp) | exact LeX.ownEq (by simp) (Nat.le_of_ble_eq_true rfl) | exact LeX.tEq (by congr 1 <;> omega) | exact Or.inr ⟨Nat.le_of_ble_eq_true rfl, Nat.le_of_ble_eq_true rfl, rfl⟩ | refine Or.inl ⟨Nat.le_of_ble_eq_true rfl, _, rfl, ?_⟩ | refine LeO.cells ?_ | exact LeO.arr rfl | exact LeO.arr (by simp) | exact LeO.mE (by first | rfl | simp) (by first | exact Or.inl rfl | exact Or.inr rfl) | exact LeO.cE (by first | rfl | simp) | exact LeXs.cE (by first | rfl | simp) | refine LeO.map (by first | rfl | simp) ?_ (by first | exact Or.inl rfl | exact Or.inr rfl) | exact LeO.iter (by first | rfl | simp) (Nat.le_of_ble_eq_true rfl) | refine LeXs.cons ?_ ?_ | exact LeXs.nil | refine And.intro ?_ ?_))) (hs := (by repeat' (first | exact trivial | refine And.intro ?_ ?_ | exact Or.inl ⟨(Nat.le_of_ble_eq_true rfl), _, rfl, AObj.leSame (by first | rfl | exact hb _ (Nat.le_of_ble_eq_true rfl) | exact hob _ (Nat.le_of_ble_eq_true rfl) | (refine open_bd ?_ _ _; exact Nat.le_of_ble_eq_true rfl) | exact pls_bd _ _ | exact hx10 _ (Nat.le_of_ble_eq_true rfl) | exact hx11 _ (Nat.le_of_ble_eq_true rfl) | exact hx12 _ (Nat.le_of_ble_eq_true rfl) | exact hx14 _ (Nat.le_of_ble_eq_true rfl) | exact hx15 _ (Nat.le_of_ble_eq_true rfl) | (refine gE_bd ?_ _; exact Nat.le_of_ble_eq_true rfl))⟩ | exact Or.inl ⟨(Nat.le_of_ble_eq_true rfl), _, rfl, (updLe hp rfl)⟩)))
end Go.GB.C35


/-
  L35RL: chapter 35: contracts where another queue stands beside.
-/
namespace Go.GB.C35
open Go.GB
set_option linter.unusedSimpArgs false
set_option linter.unusedVariables false
set_option maxRecDepth 100000
set_option maxHeartbeats 16000000
variable {P : Program}
theorem take_ok2 (H : Pr P) (m c s f nx : Int) (tk : List Int) (ps : List Pl) (op es : List (List T × V)) (n a : Nat) (p : Pl) (htk : tk[n]? = some (a : Int)) (hp : ps[a]? = some p) (hpk : p.Ok) (hpl : ps.length < 1000000) (htl : tk.length < 1000000) (hk : keysOk [.int .i64] es = true) (hg : mget [.int .i64 f] es = some (.ptr 4 0)) (hb : ∀ k, 16 ≤ k → V.bds k (es.map (·.2)) = true) (hob : ∀ k, 16 ≤ k → V.bds k (op.map (·.2)) = true) (o10 o11 o12 o14 o15 : AObj) (hx10 : ∀ k, 16 ≤ k → o10.bd k = true) (hx11 : ∀ k, 16 ≤ k → o11.bd k = true) (hx12 : ∀ k, 16 ≤ k → o12.bd k = true) (hx14 : ∀ k, 16 ≤ k → o14.bd k = true) (hx15 : ∀ k, 16 ≤ k → o15.bd k = true) : FnOk P 19 [.ptr 1 0, .t (.int .i64 f), .t (.int .i64 n)] ⟨[(0, .map false es none), (1, .cells [.t (.int .i64 m), .mp 0, .t (.int .i64 c), .t (.int .i64 s)]), (3, .map false op none), (4, .cells [.own 8 1 (tk.map nE), .gsl 7 (pl ps).length 0 (pl ps).length 1, .t (.int .i64 nx), .mp 3]), (5, .fobs (ps.map Pl.cs)), (7, .gro (pl ps).length (gE (pE 5) (pl ps))), (8, .arr tk.length), (10, o10), (11, o11), (12, o12), (14, o14), (15, o15)], 16⟩ { v := .tup [(if p.ld then p.res else Val.zero).v, .t (.bool p.ld)], rd := true } := by
  have hsa : stoBd 16 [(0, .map false es none), (1, .cells [.t (.int .i64 m), .mp 0, .t (.int .i64 c), .t (.int .i64 s)]), (3, .map false op none), (4, .cells [.own 8 1 (tk.map nE), .gsl 7 (pl ps).length 0 (pl ps).length 1, .t (.int .i64 nx), .mp 3]), (5, .fobs (ps.map Pl.cs)), (7, .gro (pl ps).length (gE (pE 5) (pl ps))), (8, .arr tk.length), (10, o10), (11, o11), (12, o12), (14, o14), (15, o15)] = true := (by repeat' (first | exact (rfl : stoBd _ [] = true) | refine stoBd_cons (Nat.le_of_ble_eq_true rfl) ?_ ?_ | exact (by first | rfl | exact hb _ (Nat.le_of_ble_eq_true rfl) | exact hob _ (Nat.le_of_ble_eq_true rfl) | (refine open_bd ?_ _ _; exact Nat.le_of_ble_eq_true rfl) | exact pls_bd _ _ | exact hx10 _ (Nat.le_of_ble_eq_true rfl) | exact hx11 _ (Nat.le_of_ble_eq_true rfl) | exact hx12 _ (Nat.le_of_ble_eq_true rfl) | exact hx14 _ (Nat.le_of_ble_eq_true rfl) | exact hx15 _ (Nat.le_of_ble_eq_true rfl) | (refine gE_bd ?_ _; exact Nat.le_of_ble_eq_true rfl))))
  have hsb : stoBd 17 [(0, .map false es none), (1, .cells [.t (.int .i64 m), .mp 0, .t (.int .i64 c), .t (.int .i64 s)]), (3, .map false op none), (4, .cells [.own 8 1 (tk.map nE), .gsl 7 (pl ps).length 0 (pl ps).length 1, .t (.int .i64 nx), .mp 3]), (5, .fobs (ps.map Pl.cs)), (7, .gro (pl ps).length (gE (pE 5) (pl ps))), (8, .arr tk.length), (10, o10), (11, o11), (12, o12), (14, o14), (15, o15), (16, .cells [.t (.int .i64 0), .t (.int .i64 0), .t (.str []), .nils, .nils])] = true := (by repeat' (first | exact (rfl : stoBd _ [] = true) | refine stoBd_cons (Nat.le_of_ble_eq_true rfl) ?_ ?_ | exact (by first | rfl | exact hb _ (Nat.le_of_ble_eq_true rfl) | exact hob _ (Nat.le_of_ble_eq_true rfl) | (refine open_bd ?_ _ _; exact Nat.le_of_ble_eq_true rfl) | exact pls_bd _ _ | exact hx10 _ (Nat.le_of_ble_eq_true rfl) | exact hx11 _ (Nat.le_of_ble_eq_true rfl) | exact hx12 _ (Nat.le_of_ble_eq_true rfl) | exact hx14 _ (Nat.le_of_ble_eq_true rfl) | exact hx15 _ (Nat.le_of_ble_eq_true rfl) | (refine gE_bd ?_ _; exact Nat.le_of_ble_eq_true rfl))))
  have hn : n < tk.length := (List.getElem?_eq_some_iff.1 htk).1
  have ha : a < (pl ps).length := by rw [pl_length]; exact (List.getElem?_eq_some_iff.1 hp).1
  have hpos : 0 < (pl ps).length := by omega
  have hpc : (ps.map Pl.cs)[a]? = some p.cs := by simp [hp]
  refine FnOk.run H.i19 H.mixed rfl rfl ?_
  refine fR rfl ?_
  refine Mid.callS (none_gb2 H m c s _ _ hsb) rfl rfl hsb rfl ?_
  refine fM rfl ?_
  refine Mid.lookVG (.ptr 4 0) rfl rfl rfl rfl rfl (hk) (by rw [hg]; rfl) (by (repeat' (first | exact trivial | exact Bool.not_or_self _ | exact grd1 _ | exact grd2 _ | exact grd3 _ _ | exact grd4 _ _ | refine And.intro ?_ ?_ | exact rfl | (simp; done) | (simp <;> omega))); done) (by (repeat' (first | exact trivial | exact Bool.not_or_self _ | exact grd1 _ | exact grd2 _ | exact grd3 _ _ | exact grd4 _ _ | refine And.intro ?_ ?_ | exact rfl | (simp; done) | (simp <;> omega))); done) rfl ?_
  refine fM rfl ?_
  refine Mid.lookVG (.ptr 4 0) rfl rfl rfl rfl rfl (hk) (by rw [hg]; rfl) (by (repeat' (first | exact trivial | exact Bool.not_or_self _ | exact grd1 _ | exact grd2 _ | exact grd3 _ _ | exact grd4 _ _ | refine And.intro ?_ ?_ | exact rfl | (simp; done) | (simp <;> omega))); done) (by (repeat' (first | exact trivial | exact Bool.not_or_self _ | exact grd1 _ | exact grd2 _ | exact grd3 _ _ | exact grd4 _ _ | refine And.intro ?_ ?_ | exact rfl | (simp; done) | (simp <;> omega))); done) rfl ?_
  refine fM rfl ?_
  refine lMG rfl rfl rfl rfl ?_
  refine fM rfl ?_
  refine Run.condF rfl rfl (by simp; omega) ?_
  refine fR rfl ?_
  refine Mid.lookV (.ptr 4 0) rfl rfl rfl rfl (hk) (by rw [hg]; rfl) rfl ?_
  refine fM rfl ?_
  refine Mid.elemMap rfl rfl rfl htk rfl rfl ?_
  refine fM rfl ?_
  refine pu rfl ?_
  refine Mid.ldG (a) 0 (sz := 1) rfl rfl (by omega) (by omega) (fun _ => rfl) (pl_some (by rw [pl_length] at ha; exact ha)) rfl rfl ?_
  refine p0 rfl ?_
  refine Mid.fast (f := 1) rfl (by (repeat' (first | exact trivial | exact Bool.not_or_self _ | exact grd1 _ | exact grd2 _ | exact grd3 _ _ | exact grd4 _ _ | refine And.intro ?_ ?_ | exact rfl | (simp; done) | (simp <;> omega))); done) ?_
  refine Run.fast (f := 4) rfl (by (repeat' (first | exact trivial | exact Bool.not_or_self _ | exact grd1 _ | exact grd2 _ | exact grd3 _ _ | exact grd4 _ _ | refine And.intro ?_ ?_ | exact rfl | (simp; done) | (simp <;> omega))); done) ?_
  cases hld : p.ld with
  | false =>
    refine Mid.ldF (cs := p.cs) (.t (.bool false)) rfl rfl hpc (by simp [Pl.cs, hld]) rfl ?_
    refine fM rfl ?_
    refine Run.condT rfl rfl rfl ?_
    refine fR rfl ?_
    refine Run.fin rfl (EndOk.sameX rfl rfl rfl hsa ?_)
    exact .tup (.cons zeroR (.cons (.t rfl) .nil))
  | true =>
    refine Mid.ldF (cs := p.cs) (.t (.bool true)) rfl rfl hpc (by simp [Pl.cs, hld]) rfl ?_
    refine fM rfl ?_
    refine Run.condF rfl rfl rfl ?_
    refine Run.fast (f := 4) rfl (by (repeat' (first | exact trivial | exact Bool.not_or_self _ | exact grd1 _ | exact grd2 _ | exact grd3 _ _ | exact grd4 _ _ | refine And.intro ?_ ?_ | exact rfl | (simp; done) | (simp <;> omega))); done) ?_
    refine Mid.ldFA (cs := p.cs) rfl rfl hpc (by simp [Pl.cs]) rfl rfl ?_
    skip
    refine Mid.call (copy_ok H p.res hpk.s) rfl rfl rfl rfl ?_
    refine fM rfl ?_
    refine Run.fin rfl (EndOk.sameX rfl rfl rfl hsa ?_)
    exact .tup (.cons (.le (.same rfl)) (.cons (.t rfl) .nil))
end Go.GB.C35


/-
  L35S: chapter 35: the first representation of a second fetch.
-/
namespace Go.GB.C35
open Go.GB
set_option linter.unusedSimpArgs false
set_option linter.unusedVariables false
set_option maxRecDepth 100000
set_option maxHeartbeats 16000000
variable {P : Program}
theorem mset_none {k : List T} {v : V} : ∀ {es : List (List T × V)}, mget k es = none → mset k v es = es ++ [(k, v)]
  | [], _ => rfl
  | e :: r, h => by
    simp only [mget] at h
    by_cases he : keyEq k e.1 = true
    · rw [if_pos he] at h; cases h
    · rw [if_neg he] at h
      simp only [mset]
      rw [if_neg he, mset_none h]; rfl
theorem add_second (H : Pr P) (m c s f : Int) (hf : 0 ≤ f) (v : Val) (hv : v.Ok) (es : List (List T × V)) (hk : keysOk [.int .i64] es = true) (hg : mget [.int .i64 f] es = none) (hb : ∀ k, 9 ≤ k → V.bds k (es.map (·.2)) = true) (o3 o4 o5 o7 o8 : AObj) (hx3 : ∀ k, 9 ≤ k → o3.bd k = true) (hx4 : ∀ k, 9 ≤ k → o4.bd k = true) (hx5 : ∀ k, 9 ≤ k → o5.bd k = true) (hx7 : ∀ k, 9 ≤ k → o7.bd k = true) (hx8 : ∀ k, 9 ≤ k → o8.bd k = true) : FnOk P 16 [.ptr 1 0, .t (.int .i64 f), v.v] ⟨[(0, .map false es none), (1, .cells [.t (.int .i64 m), .mp 0, .t (.int .i64 c), .t (.int .i64 s)]), (3, o3), (4, o4), (5, o5), (7, o7), (8, o8)], 9⟩ { v := .tup [.t (.int .i64 0), .t (.int .i64 0)], ob := [(0, .map false (es ++ [([.int .i64 f], .ptr 11 0)]) none), (10, .map false [] none), (11, .cells [.own 15 1 ([(0 : Int)].map nE), .gsl 14 (pl [(⟨v, Val.zero, false⟩ : Pl)]).length 0 (pl [(⟨v, Val.zero, false⟩ : Pl)]).length 1, .t (.int .i64 0), .mp 10]), (12, .fobs ([(⟨v, Val.zero, false⟩ : Pl)].map Pl.cs)), (14, .gro (pl [(⟨v, Val.zero, false⟩ : Pl)]).length (gE (pE 12) (pl [(⟨v, Val.zero, false⟩ : Pl)]))), (15, .arr [(0 : Int)].length)], n := 7, rd := true } := by
  have hsb : stoBd 10 [(0, .map false es none), (1, .cells [.t (.int .i64 m), .mp 0, .t (.int .i64 c), .t (.int .i64 s)]), (3, o3), (4, o4), (5, o5), (7, o7), (8, o8), (9, .cells [.t (.int .i64 v.kind), .t (.int .i64 v.int), .t (.str v.text), .t (.lst (v.items.map Val.enc)), .t (.lst (v.keys.map sE))])] = true := (by repeat' (first | exact (rfl : stoBd _ [] = true) | refine stoBd_cons (Nat.le_of_ble_eq_true rfl) ?_ ?_ | exact (by first | rfl | exact hb _ (Nat.le_of_ble_eq_true rfl) | exact hx3 _ (Nat.le_of_ble_eq_true rfl) | exact hx4 _ (Nat.le_of_ble_eq_true rfl) | exact hx5 _ (Nat.le_of_ble_eq_true rfl) | exact hx7 _ (Nat.le_of_ble_eq_true rfl) | exact hx8 _ (Nat.le_of_ble_eq_true rfl))))
  refine FnOk.run H.i16 H.mixed rfl rfl ?_
  refine fR rfl ?_
  refine Mid.callS (none_gb H m c s _ _ hsb) rfl rfl hsb rfl ?_
  refine fM rfl ?_
  refine Run.condF rfl rfl rfl ?_
  refine fR rfl ?_
  refine Run.condF rfl rfl (by simp; omega) ?_
  refine fR rfl ?_
  refine Mid.lookV (.t .nilp) rfl rfl rfl rfl (hk) (by rw [hg]; rfl) rfl ?_
  refine fM rfl ?_
  refine Run.condT rfl rfl rfl ?_
  refine fR rfl ?_
  refine Mid.mkmapV rfl ?_
  refine fM rfl ?_
  refine Mid.mapV (es' := es ++ [([.int .i64 f], .ptr 11 0)]) rfl rfl rfl hk (mset_none hg) rfl ?_
  refine fM rfl ?_
  refine p0 rfl ?_
  refine fM rfl ?_
  refine Run.loop rfl ?_
  refine Run.unroll ?_
  refine fR rfl ?_
  refine Run.condF rfl rfl rfl ?_
  refine fR rfl ?_
  refine Run.condT rfl rfl rfl ?_
  have hb2 : ∀ k, 12 ≤ k → V.bds k ((es ++ [([T.int .i64 f], V.ptr 11 0)]).map fun e => e.2) = true := by
    intro k hk
    rw [List.map_append, V.bds_app, hb k (by omega)]
    simp [V.bds, V.bd]; omega
  refine rWeakC 12 rfl (st' := { env := [(5, .ptr 9 0), (8, .ptr 11 0), (9, .t (.int .i64 (-1)))], s := ⟨[(0, .map false (es ++ [([.int .i64 f], .ptr 11 0)]) none), (1, .cells [.t (.int .i64 m), .mp 0, .t (.int .i64 c), .t (.int .i64 s)]), (3, o3), (4, o4), (5, o5), (7, o7), (8, o8), (9, .cells [.t (.int .i64 v.kind), .t (.int .i64 v.int), .t (.str v.text), .t (.lst (v.items.map Val.enc)), .t (.lst (v.keys.map sE))]), (10, .map false [] (some (0, []))), (11, .cells [.nils, .nils, .t (.int .i64 0), .mp 10]), (12, .fobs [])], 13⟩ }) ?_ rfl rfl rfl (he := (by repeat' (first | exact trivial | exact LeX.t | exact LeX.top | exact LeX.nilOwn (Nat.le_of_ble_eq_true rfl) (Nat.le_of_ble_eq_true rfl) | exact LeX.ownT | exact LeX.nilT | exact LeX.same rfl | exact LeX.tEq (by simp) | exact LeX.ownEq (by simp) (Nat.le_of_ble_eq_true rfl) | exact LeX.tEq (by congr 1 <;> omega) | exact Or.inr ⟨Nat.le_of_ble_eq_true rfl, Nat.le_of_ble_eq_true rfl, rfl⟩ | refine Or.inl ⟨Nat.le_of_ble_eq_true rfl, _, rfl, ?_⟩ | refine LeO.cells ?_ | exact LeO.arr rfl | exact LeO.arr (by simp) | exact LeO.mE (by first | rfl | simp) (by first | exact Or.inl rfl | exact Or.inr rfl) | exact LeO.cE (by first | rfl | simp) | exact LeXs.cE (by first | rfl | simp) | refine LeO.map (by first | rfl | simp) ?_ (by first | exact Or.inl rfl | exact Or.inr rfl) | exact LeO.iter (by first | rfl | simp) (Nat.le_of_ble_eq_true rfl) | refine LeXs.cons ?_ ?_ | exact LeXs.nil | refine And.intro ?_ ?_))) (hs := ?_)
  rotate_left
  · repeat' (first | exact trivial | refine And.intro ?_ ?_ | exact Or.inr ⟨Nat.le_of_ble_eq_true rfl, Nat.le_of_ble_eq_true rfl, rfl⟩ | exact Or.inl ⟨Nat.le_of_ble_eq_true rfl, _, rfl, AObj.leSame (by exact hb2 _ (Nat.le_of_ble_eq_true rfl))⟩ | exact .inl ⟨(Nat.le_of_ble_eq_true rfl), _, rfl, AObj.leSame (by first | rfl | exact hb _ (Nat.le_of_ble_eq_true rfl) | exact hx3 _ (Nat.le_of_ble_eq_true rfl) | exact hx4 _ (Nat.le_of_ble_eq_true rfl) | exact hx5 _ (Nat.le_of_ble_eq_true rfl) | exact hx7 _ (Nat.le_of_ble_eq_true rfl) | exact hx8 _ (Nat.le_of_ble_eq_true rfl))⟩)
  refine fR rfl ?_
  refine p0 rfl ?_
  refine fM rfl ?_
  refine Mid.call (copy_ok H v hv) rfl rfl rfl rfl ?_
  refine Mid.fast (f := 1) rfl (by (repeat' (first | exact trivial | exact Bool.not_or_self _ | exact grd1 _ | exact grd2 _ | exact grd3 _ _ | exact grd4 _ _ | refine And.intro ?_ ?_ | exact rfl | (simp; done) | (simp <;> omega))); done) ?_
  refine Mid.boxF (os := []) 12 rfl rfl rfl rfl rfl ?_
  refine Mid.bslO (cs := [.fpt 12 0 0]) rfl rfl ?_
  refine Mid.appGN (pE 12) [0] rfl rfl (fun _ => rfl) (by decide) (by decide) rfl ?_
  refine fM rfl ?_
  refine apN nE [(0 : Int)] rfl rfl rfl ?_ (h1 := by first | omega | (simp; omega) | (simp; done)) (h2 := by first | omega | (simp; omega) | (simp; done))
  refine fM rfl ?_
  refine lM rfl rfl rfl ?_
  refine p0 rfl ?_
  refine fM rfl ?_
  refine Run.fin rfl (EndOk.chg rfl rfl ?_ ?_)
  · exact .tup (.cons (.t rfl) (.cons (.t rfl) .nil))
  · refine ⟨?_, ?_, ?_, ?_, ?_, ?_, ?_, ?_, ?_, ?_, ?_, ?_, trivial⟩
    · exact .inl ⟨Nat.le_of_ble_eq_true rfl, _, rfl, AObj.leSame (by exact hb2 _ (Nat.le_of_ble_eq_true rfl))⟩
    · exact .inl ⟨(Nat.le_of_ble_eq_true rfl), _, rfl, AObj.leSame (by first | rfl | exact hb _ (Nat.le_of_ble_eq_true rfl) | exact hx3 _ (Nat.le_of_ble_eq_true rfl) | exact hx4 _ (Nat.le_of_ble_eq_true rfl) | exact hx5 _ (Nat.le_of_ble_eq_true rfl) | exact hx7 _ (Nat.le_of_ble_eq_true rfl) | exact hx8 _ (Nat.le_of_ble_eq_true rfl))⟩
    · exact .inl ⟨(Nat.le_of_ble_eq_true rfl), _, rfl, AObj.leSame (by first | rfl | exact hb _ (Nat.le_of_ble_eq_true rfl) | exact hx3 _ (Nat.le_of_ble_eq_true rfl) | exact hx4 _ (Nat.le_of_ble_eq_true rfl) | exact hx5 _ (Nat.le_of_ble_eq_true rfl) | exact hx7 _ (Nat.le_of_ble_eq_true rfl) | exact hx8 _ (Nat.le_of_ble_eq_true rfl))⟩
    · exact .inl ⟨(Nat.le_of_ble_eq_true rfl), _, rfl, AObj.leSame (by first | rfl | exact hb _ (Nat.le_of_ble_eq_true rfl) | exact hx3 _ (Nat.le_of_ble_eq_true rfl) | exact hx4 _ (Nat.le_of_ble_eq_true rfl) | exact hx5 _ (Nat.le_of_ble_eq_true rfl) | exact hx7 _ (Nat.le_of_ble_eq_true rfl) | exact hx8 _ (Nat.le_of_ble_eq_true rfl))⟩
    · exact .inl ⟨(Nat.le_of_ble_eq_true rfl), _, rfl, AObj.leSame (by first | rfl | exact hb _ (Nat.le_of_ble_eq_true rfl) | exact hx3 _ (Nat.le_of_ble_eq_true rfl) | exact hx4 _ (Nat.le_of_ble_eq_true rfl) | exact hx5 _ (Nat.le_of_ble_eq_true rfl) | exact hx7 _ (Nat.le_of_ble_eq_true rfl) | exact hx8 _ (Nat.le_of_ble_eq_true rfl))⟩
    · exact .inl ⟨(Nat.le_of_ble_eq_true rfl), _, rfl, AObj.leSame (by first | rfl | exact hb _ (Nat.le_of_ble_eq_true rfl) | exact hx3 _ (Nat.le_of_ble_eq_true rfl) | exact hx4 _ (Nat.le_of_ble_eq_true rfl) | exact hx5 _ (Nat.le_of_ble_eq_true rfl) | exact hx7 _ (Nat.le_of_ble_eq_true rfl) | exact hx8 _ (Nat.le_of_ble_eq_true rfl))⟩
    · exact .inl ⟨(Nat.le_of_ble_eq_true rfl), _, rfl, AObj.leSame (by first | rfl | exact hb _ (Nat.le_of_ble_eq_true rfl) | exact hx3 _ (Nat.le_of_ble_eq_true rfl) | exact hx4 _ (Nat.le_of_ble_eq_true rfl) | exact hx5 _ (Nat.le_of_ble_eq_true rfl) | exact hx7 _ (Nat.le_of_ble_eq_true rfl) | exact hx8 _ (Nat.le_of_ble_eq_true rfl))⟩
    · exact .inl ⟨Nat.le_of_ble_eq_true rfl, _, rfl, .map rfl (.same rfl) (.inl rfl)⟩
    · exact .inl ⟨(Nat.le_of_ble_eq_true rfl), _, rfl, AObj.leSame (by first | rfl | exact hb _ (Nat.le_of_ble_eq_true rfl) | exact hx3 _ (Nat.le_of_ble_eq_true rfl) | exact hx4 _ (Nat.le_of_ble_eq_true rfl) | exact hx5 _ (Nat.le_of_ble_eq_true rfl) | exact hx7 _ (Nat.le_of_ble_eq_true rfl) | exact hx8 _ (Nat.le_of_ble_eq_true rfl))⟩
    · exact .inl ⟨Nat.le_of_ble_eq_true rfl, _, rfl, .fobsPush (ps := []) rfl rfl rfl (.cons .t (.cons .t (.cons .t (.cons .t (.cons .t (.cons .t (.cons .t (.cons .t (.cons .nilT (.cons .nilT (.cons .t .nil)))))))))))⟩
    · exact .inl ⟨(Nat.le_of_ble_eq_true rfl), _, rfl, AObj.leSame (by first | rfl | exact hb _ (Nat.le_of_ble_eq_true rfl) | exact hx3 _ (Nat.le_of_ble_eq_true rfl) | exact hx4 _ (Nat.le_of_ble_eq_true rfl) | exact hx5 _ (Nat.le_of_ble_eq_true rfl) | exact hx7 _ (Nat.le_of_ble_eq_true rfl) | exact hx8 _ (Nat.le_of_ble_eq_true rfl))⟩
    · exact .inl ⟨Nat.le_of_ble_eq_true rfl, _, rfl, .arr rfl⟩
end Go.GB.C35


/-
  L35O: chapter 35: the laws' own functions; fetches that have no queue.
-/
namespace Go.GB.C35
open Go.GB
set_option linter.unusedSimpArgs false
set_option linter.unusedVariables false
set_option maxRecDepth 100000
set_option maxHeartbeats 8000000
variable {P : Program}
/-- the first value that is the same -/
def idx (l : List Val) (v : Val) : Option Nat := l.findIdx? fun d => sameV d v
def fewF (l : List Val) : Bool := ((l.take 100).all fun v => decide (szV v ≤ 50)) && decide (l.length ≤ 100)
theorem few_ok (H : Pr P) (l : List Val) (hl : l.length ≤ 140737488355328) (ho : ∀ x, x ∈ l → x.Ok) : FnOk P 21 [.t (.lst (l.map Val.enc))] ⟨[], 0⟩ { v := .t (.bool (fewF l)) } := by
  refine FnOk.run H.i21 H.mixed rfl rfl ?_
  refine fR rfl ?_
  refine rList (l.take 100) (fun i (_ : Unit) => { env := [(0, .t (.lst (l.map Val.enc))), (3, .t (.int .i64 i))], s := ⟨[], 0⟩ }) (fun r i _ => ∀ j x, j < i → l[j]? = some x → szV x ≤ 50) 0 () rfl (by intro j x hj; omega) rfl rfl rfl ?_ ?_
  · intro _ hinv
    have e : fewF l = decide (l.length ≤ 100) := by
      have : ((l.take 100).all fun v => decide (szV v ≤ 50)) = true := by
        simp only [List.all_eq_true, decide_eq_true_eq]
        intro x hx
        obtain ⟨j, hj⟩ := List.getElem?_of_mem hx
        have hlt := (List.getElem?_eq_some_iff.1 hj).1
        refine hinv j x hlt ?_
        rw [List.getElem?_take] at hj
        split at hj
        · exact hj
        · cases hj
      simp [fewF, this]
    rw [e]
    simp only [List.length_take] at *
    refine fR rfl ?_
    refine lM rfl rfl rfl ?_
    refine fM rfl ?_
    refine Run.condF rfl rfl (by simp; omega) ?_
    refine fR rfl ?_
    refine lM rfl rfl rfl ?_
    refine fM rfl ?_
    refine Run.fin rfl (EndOk.go ?_); exact .t (by simp; omega)
  · rintro i x r _ h1 hi hd hinv ih
    have h1' : l[i]? = some x ∧ i < 100 := by
      rw [List.getElem?_take] at h1
      split at h1
      · exact ⟨h1, by assumption⟩
      · cases h1
    have hil := (List.getElem?_eq_some_iff.1 h1'.1).1
    have hc := size_ok H x (ho x (List.mem_of_getElem? h1'.1))
    refine fR rfl ?_
    refine lM rfl rfl rfl ?_
    refine fM rfl ?_
    refine Run.condT rfl rfl (by simp; omega) ?_
    refine fR rfl ?_
    refine Mid.elemMapC (Val.enc_eq x) rfl rfl rfl h1'.1 rfl rfl ?_
    refine fM rfl ?_
    refine Mid.call (hc) rfl rfl rfl rfl ?_
    refine fM rfl ?_
    by_cases hs : szV x ≤ 50
    · refine Run.condF rfl rfl (by simp; omega) ?_
      refine fR rfl ?_
      refine aL rfl rfl rfl rfl rfl ?_
      refine fM rfl ?_
      exact rWeak 0 rfl (ih () (by
        intro j y hj hy
        by_cases hji : j = i
        · subst hji; rw [h1'.1] at hy; cases hy; exact hs
        · exact hinv j y (by omega) hy)) rfl rfl rfl
    · have e : fewF l = false := by
        simp only [fewF, Bool.and_eq_false_iff]
        refine .inl ?_
        rw [List.all_eq_false]
        exact ⟨x, List.mem_of_getElem? h1, by simp; omega⟩
      rw [e]
      refine Run.condT rfl rfl (by simp; omega) ?_
      refine fR rfl ?_
      refine Run.fin rfl (EndOk.go ?_); exact .t rfl
theorem none_n2 (H : Pr P) (m c s : Int) (o : AObj) (r : List (Nat × AObj)) (hb : stoBd 2 ((0, o) :: (1, .cells [.t (.int .i64 m), .mp 0, .t (.int .i64 c), .t (.int .i64 s)]) :: r) = true) : FnOk P 31 [.ptr 1 0] ⟨(0, o) :: (1, .cells [.t (.int .i64 m), .mp 0, .t (.int .i64 c), .t (.int .i64 s)]) :: r, 2⟩ { v := .t (.bool false), rd := true } := by
  refine FnOk.run H.i31 H.mixed rfl rfl ?_
  refine fR rfl ?_
  refine Run.fin rfl (EndOk.sameX rfl (List.append_nil _).symm rfl hb (.t rfl))
theorem next_n2 (H : Pr P) (m c s f : Int) (es : List (List T × V)) (sx : Option (Nat × List Nat)) (r : List (Nat × AObj)) (hk : keysOk [.int .i64] es = true) (hg : mget [.int .i64 f] es = none) (hb : stoBd 2 ((0, .map false es sx) :: (1, .cells [.t (.int .i64 m), .mp 0, .t (.int .i64 c), .t (.int .i64 s)]) :: r) = true) : FnOk P 17 [.ptr 1 0, .t (.int .i64 f)] ⟨(0, .map false es sx) :: (1, .cells [.t (.int .i64 m), .mp 0, .t (.int .i64 c), .t (.int .i64 s)]) :: r, 2⟩ { v := .tup [.t (.lst []), .t (.bool false)], rd := true } := by
  refine FnOk.run H.i17 H.mixed rfl rfl ?_
  refine fR rfl ?_
  refine Mid.callS (none_n2 H m c s _ _ hb) rfl rfl hb rfl ?_
  refine fM rfl ?_
  refine Mid.lookVG (.t .nilp) rfl rfl rfl rfl rfl (hk) (by rw [hg]; rfl) (by (repeat' (first | exact trivial | exact Bool.not_or_self _ | exact grd1 _ | exact grd2 _ | exact grd3 _ _ | exact grd4 _ _ | refine And.intro ?_ ?_ | exact rfl | (simp; done) | (simp <;> omega))); done) (by (repeat' (first | exact trivial | exact Bool.not_or_self _ | exact grd1 _ | exact grd2 _ | exact grd3 _ _ | exact grd4 _ _ | refine And.intro ?_ ?_ | exact rfl | (simp; done) | (simp <;> omega))); done) rfl ?_
  refine fM rfl ?_
  refine Run.condT rfl rfl rfl ?_
  refine fR rfl ?_
  refine Run.fin rfl (EndOk.sameX rfl (List.append_nil _).symm rfl hb ?_)
  exact .tup (.cons (.nil rfl) (.cons (.t rfl) .nil))
theorem done_n2 (H : Pr P) (m c s f : Int) (es : List (List T × V)) (sx : Option (Nat × List Nat)) (r : List (Nat × AObj)) (xs : List (List T)) (hk : keysOk [.int .i64] es = true) (hg : mget [.int .i64 f] es = none) (hb : stoBd 2 ((0, .map false es sx) :: (1, .cells [.t (.int .i64 m), .mp 0, .t (.int .i64 c), .t (.int .i64 s)]) :: r) = true) : FnOk P 18 [.ptr 1 0, .t (.int .i64 f), .t (.lst xs)] ⟨(0, .map false es sx) :: (1, .cells [.t (.int .i64 m), .mp 0, .t (.int .i64 c), .t (.int .i64 s)]) :: r, 2⟩ { v := .t (.int .i64 12), rd := true } := by
  refine FnOk.run H.i18 H.mixed rfl rfl ?_
  refine fR rfl ?_
  refine Mid.callS (none_n2 H m c s _ _ hb) rfl rfl hb rfl ?_
  refine fM rfl ?_
  refine Run.condF rfl rfl rfl ?_
  refine fR rfl ?_
  refine Mid.lookV (.t .nilp) rfl rfl rfl rfl (hk) (by rw [hg]; rfl) rfl ?_
  refine fM rfl ?_
  refine Mid.lookVG (.t .nilp) rfl rfl rfl rfl rfl (hk) (by rw [hg]; rfl) (by (repeat' (first | exact trivial | exact Bool.not_or_self _ | exact grd1 _ | exact grd2 _ | exact grd3 _ _ | exact grd4 _ _ | refine And.intro ?_ ?_ | exact rfl | (simp; done) | (simp <;> omega))); done) (by (repeat' (first | exact trivial | exact Bool.not_or_self _ | exact grd1 _ | exact grd2 _ | exact grd3 _ _ | exact grd4 _ _ | refine And.intro ?_ ?_ | exact rfl | (simp; done) | (simp <;> omega))); done) rfl ?_
  skip
  refine Mid.grdF rfl rfl rfl rfl rfl ?_
  refine Mid.grdF rfl rfl rfl rfl rfl ?_
  refine Mid.grdF rfl rfl rfl rfl rfl ?_
  refine Mid.grdF rfl rfl rfl rfl rfl ?_
  refine Mid.grdF rfl rfl rfl rfl rfl ?_
  refine fM rfl ?_
  refine Run.condT rfl rfl rfl ?_
  refine fR rfl ?_
  refine Run.fin rfl (EndOk.sameX rfl (List.append_nil _).symm rfl hb (.t rfl))
theorem none_n9 (H : Pr P) (m c s : Int) (o : AObj) (r : List (Nat × AObj)) (hb : stoBd 9 ((0, o) :: (1, .cells [.t (.int .i64 m), .mp 0, .t (.int .i64 c), .t (.int .i64 s)]) :: r) = true) : FnOk P 31 [.ptr 1 0] ⟨(0, o) :: (1, .cells [.t (.int .i64 m), .mp 0, .t (.int .i64 c), .t (.int .i64 s)]) :: r, 9⟩ { v := .t (.bool false), rd := true } := by
  refine FnOk.run H.i31 H.mixed rfl rfl ?_
  refine fR rfl ?_
  refine Run.fin rfl (EndOk.sameX rfl (List.append_nil _).symm rfl hb (.t rfl))
theorem next_n9 (H : Pr P) (m c s f : Int) (es : List (List T × V)) (sx : Option (Nat × List Nat)) (r : List (Nat × AObj)) (hk : keysOk [.int .i64] es = true) (hg : mget [.int .i64 f] es = none) (hb : stoBd 9 ((0, .map false es sx) :: (1, .cells [.t (.int .i64 m), .mp 0, .t (.int .i64 c), .t (.int .i64 s)]) :: r) = true) : FnOk P 17 [.ptr 1 0, .t (.int .i64 f)] ⟨(0, .map false es sx) :: (1, .cells [.t (.int .i64 m), .mp 0, .t (.int .i64 c), .t (.int .i64 s)]) :: r, 9⟩ { v := .tup [.t (.lst []), .t (.bool false)], rd := true } := by
  refine FnOk.run H.i17 H.mixed rfl rfl ?_
  refine fR rfl ?_
  refine Mid.callS (none_n9 H m c s _ _ hb) rfl rfl hb rfl ?_
  refine fM rfl ?_
  refine Mid.lookVG (.t .nilp) rfl rfl rfl rfl rfl (hk) (by rw [hg]; rfl) (by (repeat' (first | exact trivial | exact Bool.not_or_self _ | exact grd1 _ | exact grd2 _ | exact grd3 _ _ | exact grd4 _ _ | refine And.intro ?_ ?_ | exact rfl | (simp; done) | (simp <;> omega))); done) (by (repeat' (first | exact trivial | exact Bool.not_or_self _ | exact grd1 _ | exact grd2 _ | exact grd3 _ _ | exact grd4 _ _ | refine And.intro ?_ ?_ | exact rfl | (simp; done) | (simp <;> omega))); done) rfl ?_
  refine fM rfl ?_
  refine Run.condT rfl rfl rfl ?_
  refine fR rfl ?_
  refine Run.fin rfl (EndOk.sameX rfl (List.append_nil _).symm rfl hb ?_)
  exact .tup (.cons (.nil rfl) (.cons (.t rfl) .nil))
end Go.GB.C35


/-
  L35P: chapter 35: what the batches of a fetch are, in plain Lean.
-/
namespace Go.GB.C35
open Go.GB
set_option linter.unusedSimpArgs false
set_option linter.unusedVariables false
def plA (k j : Nat) (v : Val) : Pl := if j < k then ⟨v, mkL [v], true⟩ else ⟨v, Val.zero, false⟩
def psN (D : List Val) (k : Nat) : List Pl := D.mapIdx (plA k)
theorem psN_at (D : List Val) (k j : Nat) : (psN D k)[j]? = (D[j]?).map (plA k j) := by simp [psN]
theorem psN_len (D : List Val) (k : Nat) : (psN D k).length = D.length := by simp [psN]
theorem psN_rep (D : List Val) (k : Nat) : (psN D k).map Pl.rep = D := by
  apply List.ext_getElem?
  intro j
  rw [List.getElem?_map, psN_at]
  cases D[j]? with
  | none => rfl
  | some v => simp only [Option.map_some, plA]; split <;> rfl
def addD (D : List Val) (v : Val) : List Val := if (idx D v).isSome then D else D ++ [v]
theorem fnd_rep (ps : List Pl) (v : Val) : fnd ps v = idx (ps.map Pl.rep) v := by
  simp [fnd, idx, List.findIdx?_map, Function.comp_def]
theorem fnd_psN (D : List Val) (k : Nat) (v : Val) : fnd (psN D k) v = idx D v := by rw [fnd_rep, psN_rep]
theorem psN_push (D : List Val) (v : Val) : psN D 0 ++ [⟨v, Val.zero, false⟩] = psN (D ++ [v]) 0 := by
  apply List.ext_getElem?
  intro j
  rw [psN_at]
  by_cases h : j < D.length
  · rw [List.getElem?_append_left (by rw [psN_len]; exact h), List.getElem?_append_left h, psN_at]
  · rw [List.getElem?_append_right (by rw [psN_len]; omega), List.getElem?_append_right (by omega), psN_len]
    cases hj : j - D.length with
    | zero => simp [plA]
    | succ n => simp
theorem addPs_psN (D : List Val) (v : Val) : addPs (psN D 0) v = psN (addD D v) 0 := by
  unfold addPs addD
  rw [fnd_psN]
  split
  · rfl
  · exact psN_push D v
theorem mkL_k {v : Val} (hv : v.Ok) : (mkL [v]).Ok := .mk (by simp [mkL, Val.items]; decide) (by simp [mkL, Val.keys]) (by intro x hx; simp [mkL, Val.items] at hx; subst hx; exact hv) (by simp [mkL, Val.text]) (by simp [mkL, Val.keys])
theorem psN_ok {D : List Val} {k : Nat} (h : ∀ v, v ∈ D → v.Ok) : ∀ p, p ∈ psN D k → p.Ok := by
  intro p hp
  obtain ⟨j, hj⟩ := List.getElem?_of_mem hp
  rw [psN_at] at hj
  cases hv : D[j]? with
  | none => rw [hv] at hj; cases hj
  | some v =>
    rw [hv] at hj
    have hvk := h v (List.mem_of_getElem? hv)
    simp only [Option.map_some, Option.some.injEq, plA] at hj
    split at hj <;> subst hj
    · exact ⟨hvk, mkL_k hvk⟩
    · exact ⟨hvk, Val.zero_ok⟩
theorem reps_psN (D : List Val) (n k j : Nat) : reps n k (psN D j) = (D.drop n).take k := by
  unfold reps
  rw [List.map_take, List.map_drop, psN_rep]
theorem sameL_refl : ∀ l : List Val, sameL l l = true
  | [] => rfl
  | x :: r => by simp [sameL, sameV_refl, sameL_refl r]
/-- what is known of the tickets of a list of representations -/
structure Tk (l : List Val) (D : List Val) (tk : List Int) (s : Int) : Prop where
  len : tk.length = l.length
  at_ : ∀ (j : Nat) (v : Val), l[j]? = some v → ∃ (a : Nat) (x : Val), tk[j]? = some (a : Int) ∧ D[a]? = some x ∧ sameV x v = true
  le : D.length ≤ l.length
  sv : s = (l.length : Int) - D.length
  sub : ∀ x, x ∈ D → x ∈ l
theorem Tk.one (v : Val) : Tk [v] [v] [0] 0 := by
  refine ⟨rfl, fun j x h => ?_, Nat.le_refl _, by simp, fun x h => h⟩
  cases j with
  | zero => simp at h; subst h; exact ⟨0, v, rfl, rfl, sameV_refl v⟩
  | succ j => simp at h
theorem Tk.push {l D : List Val} {tk : List Int} {s : Int} (h : Tk l D tk s) (v : Val) : Tk (l ++ [v]) (addD D v) (tk ++ [(addAt (psN D 0) v : Int)]) (s + addS (psN D 0) v) := by
  have hlt := h.le
  have hnew : ∀ (j : Nat) (x : Val) (E : List Val) (a0 : Int), (∀ (a : Nat) (y : Val), D[a]? = some y → E[a]? = some y) → (∃ (a : Nat) (y : Val), a0 = a ∧ E[a]? = some y ∧ sameV y v = true) → (l ++ [v])[j]? = some x → ∃ (a : Nat) (y : Val), (tk ++ [a0])[j]? = some (a : Int) ∧ E[a]? = some y ∧ sameV y x = true := by
    intro j x E a0 hE ha hj
    by_cases hjl : j < l.length
    · rw [List.getElem?_append_left hjl] at hj
      obtain ⟨a, y, h1, h2, h3⟩ := h.at_ j x hj
      exact ⟨a, y, by rw [List.getElem?_append_left (by rw [h.len]; exact hjl)]; exact h1, hE a y h2, h3⟩
    · rw [List.getElem?_append_right (by omega)] at hj
      cases hn : j - l.length with
      | zero =>
        rw [hn] at hj; simp at hj; subst hj
        obtain ⟨a, y, rfl, h2, h3⟩ := ha
        exact ⟨a, y, by rw [List.getElem?_append_right (by rw [h.len]; omega), h.len, hn]; rfl, h2, h3⟩
      | succ n => rw [hn] at hj; simp at hj
  unfold addD addAt addS
  rw [fnd_psN]
  cases hi : idx D v with
  | none =>
    simp only [Option.isSome_none, Bool.false_eq_true, if_false, Option.getD_none, psN_len]
    refine ⟨by simp [h.len], fun j x hj => hnew j x _ _ (fun a y ha => ?_) ⟨D.length, v, rfl, by simp, sameV_refl v⟩ hj, by simp; omega, by rw [h.sv]; simp; omega, fun x hx => ?_⟩
    · rw [List.getElem?_append_left (List.getElem?_eq_some_iff.1 ha).1]; exact ha
    · simp at hx ⊢
      rcases hx with hx | hx
      · exact .inl (h.sub x hx)
      · exact .inr hx
  | some a =>
    simp only [Option.isSome_some, if_true, Option.getD_some]
    obtain ⟨h1, h2, _⟩ := List.findIdx?_eq_some_iff_getElem.1 hi
    refine ⟨by simp [h.len], fun j x hj => hnew j x _ _ (fun a y ha => ha) ⟨a, D[a], rfl, by simp [h1], h2⟩ hj, by simp; omega, by rw [h.sv]; simp; omega, fun x hx => ?_⟩
    simp; exact .inl (h.sub x hx)
end Go.GB.C35


/-
  L35T: chapter 35: the law of two fetches.
-/
namespace Go.GB.C35
open Go.GB
set_option linter.unusedSimpArgs false
set_option linter.unusedVariables false
set_option maxRecDepth 100000
set_option maxHeartbeats 64000000
variable {P : Program}
theorem setR_len (rs : List Val) (ps : List Pl) (i : Nat) : (setR ps i rs).length = ps.length := by
  rw [← pl_length (setR ps i rs), pl_setR, pl_length]
theorem setR_ok : ∀ (rs : List Val) (ps : List Pl) (i : Nat), (∀ v, v ∈ rs → v.Ok) → (∀ p, p ∈ ps → p.Ok) → ∀ p, p ∈ setR ps i rs → p.Ok
  | [], ps, i, _, h => h
  | v :: r, ps, i, hr, h => setR_ok r _ _ (fun x hx => hr x (List.mem_cons_of_mem _ hx)) (upd_ok (hr v (List.mem_cons_self ..)) h)
theorem Tk.pos {l D : List Val} {tk : List Int} {s : Int} (h : Tk l D tk s) (hl : 0 < l.length) : 0 < D.length := by
  obtain ⟨a, x, _, hx, _⟩ := h.at_ 0 l[0] (List.getElem?_eq_getElem hl)
  have := (List.getElem?_eq_some_iff.1 hx).1
  omega
theorem law_apart (H : Pr P) (n : Int) (hn : -9223372036854775808 ≤ n ∧ n ≤ 9223372036854775807) (l : List Val) (hl : l.length * 80 ≤ 140737488355328) (ho : ∀ v, v ∈ l → v.Ok) (o : List Val) (hol : o.length * 80 ≤ 140737488355328) (hoo : ∀ v, v ∈ o → v.Ok) : FnOk P 6 [.t (.int .i64 n), .t (.lst (l.map Val.enc)), .t (.lst (o.map Val.enc))] ⟨[], 0⟩ { v := .t (.bool true) } := by
  refine FnOk.run H.i6 H.mixed rfl rfl ?_
  refine fR rfl ?_
  refine Mid.call (few_ok H l (by omega) ho) rfl rfl rfl rfl ?_
  refine fM rfl ?_
  refine caG rfl rfl (fun hg => ⟨_, rfl, few_ok H o (by omega) hoo, rfl⟩) rfl rfl ?_
  refine fM rfl ?_
  refine Run.cond rfl rfl (fun hw => ?_) (fun hw => ?_)
  · refine fR rfl ?_
    refine Mid.call (knows_ok H) rfl rfl rfl rfl ?_
    refine fM rfl ?_
    refine Run.fin rfl (EndOk.go ?_); exact .t rfl
  have hw2 : fewF l = true ∧ fewF o = true ∧ 1 ≤ n ∧ n ≤ 1024 := by
    revert hw
    cases fewF l <;> cases fewF o <;> simp
    try omega
  obtain ⟨hf, hf2, hn1, hn2⟩ := hw2
  have hl1 : l.length ≤ 100 := by simp [fewF] at hf; exact hf.2
  have ho1 : o.length ≤ 100 := by simp [fewF] at hf2; exact hf2.2
  clear hw
  have hnb : 1 ≤ n ∧ n ≤ 1024 := ⟨hn1, hn2⟩
  refine fR rfl ?_
  refine Mid.callR [] (new_ok H n hn1 hn2) rfl rfl rfl rfl (by repeat' (first | exact (rfl : stoBd _ [] = true) | refine stoBd_cons (Nat.le_of_ble_eq_true rfl) ?_ ?_ | exact (by first | rfl | (refine open_bd ?_ _ _; exact Nat.le_of_ble_eq_true rfl) | exact pls_bd _ _ | (refine gE_bd ?_ _; exact Nat.le_of_ble_eq_true rfl)))) (by repeat' (first | exact trivial | refine And.intro ?_ ?_ | exact rfl | exact (congrArg some (ren_pls _ _)).symm | (refine (congrArg some (ren_open ?_ _ _ _)).symm; exact rfl) | (refine (congrArg some (AObj.ren_gE ?_ _ _)).symm; intro _; rfl))) rfl (v' := .tup [.ptr 1 0, .t (.int .i64 0)]) rfl (ob' := [(0, .map false [] (some (0, []))), (1, .cells [.t (.int .i64 n), .mp 0, .t (.int .i64 0), .t (.int .i64 0)])]) (by repeat' (first | exact (rfl : renOb _ [] = []) | refine renOb_cons rfl ?_ ?_ | exact rfl | exact ren_pls _ _ | (refine ren_open ?_ _ _ _; exact rfl) | (refine AObj.ren_gE ?_ _ _; intro _; rfl))) rfl rfl ?_
  refine fM rfl ?_
  refine Mid.callR [] (new_ok H n hn1 hn2) rfl rfl rfl rfl (by repeat' (first | exact (rfl : stoBd _ [] = true) | refine stoBd_cons (Nat.le_of_ble_eq_true rfl) ?_ ?_ | exact (by first | rfl | (refine open_bd ?_ _ _; exact Nat.le_of_ble_eq_true rfl) | exact pls_bd _ _ | (refine gE_bd ?_ _; exact Nat.le_of_ble_eq_true rfl)))) (by repeat' (first | exact trivial | refine And.intro ?_ ?_ | exact rfl | exact (congrArg some (ren_pls _ _)).symm | (refine (congrArg some (ren_open ?_ _ _ _)).symm; exact rfl) | (refine (congrArg some (AObj.ren_gE ?_ _ _)).symm; intro _; rfl))) rfl (v' := .tup [.ptr 3 0, .t (.int .i64 0)]) rfl (ob' := [(2, .map false [] (some (0, []))), (3, .cells [.t (.int .i64 n), .mp 2, .t (.int .i64 0), .t (.int .i64 0)])]) (by repeat' (first | exact (rfl : renOb _ [] = []) | refine renOb_cons rfl ?_ ?_ | exact rfl | exact ren_pls _ _ | (refine ren_open ?_ _ _ _; exact rfl) | (refine AObj.ren_gE ?_ _ _; intro _; rfl))) rfl rfl ?_
  refine fM rfl ?_
  by_cases hne : l = []
  · subst hne
    have e1 := next_n2 H n 0 0 1 [] (some (0, [])) [] rfl rfl rfl
    have e2 := next_n2 H n 0 0 2 [] (some (0, [])) [] rfl rfl rfl
    have e3 := done_n2 H n 0 0 1 [] (some (0, [])) [] [] rfl rfl rfl
    have e4 := same_ok H [] [] (by decide) (by decide) (by simp) (by simp)
    rw [sameL_refl] at e4
    refine Run.loop rfl ?_
    refine Run.unroll ?_
    refine fR rfl ?_
    refine lM rfl rfl rfl ?_
    refine fM rfl ?_
    refine Run.condF rfl rfl rfl ?_
    refine fR rfl ?_
    refine Mid.callR [2, 3] (e2) rfl rfl rfl rfl (by repeat' (first | exact (rfl : stoBd _ [] = true) | refine stoBd_cons (Nat.le_of_ble_eq_true rfl) ?_ ?_ | exact (by first | rfl | (refine open_bd ?_ _ _; exact Nat.le_of_ble_eq_true rfl) | exact pls_bd _ _ | (refine gE_bd ?_ _; exact Nat.le_of_ble_eq_true rfl)))) (by repeat' (first | exact trivial | refine And.intro ?_ ?_ | exact rfl | exact (congrArg some (ren_pls _ _)).symm | (refine (congrArg some (ren_open ?_ _ _ _)).symm; exact rfl) | (refine (congrArg some (AObj.ren_gE ?_ _ _)).symm; intro _; rfl))) rfl (v' := .tup [.t (.lst []), .t (.bool false)]) rfl (ob' := []) (by repeat' (first | exact (rfl : renOb _ [] = []) | refine renOb_cons rfl ?_ ?_ | exact rfl | exact ren_pls _ _ | (refine ren_open ?_ _ _ _; exact rfl) | (refine AObj.ren_gE ?_ _ _; intro _; rfl))) rfl rfl ?_
    refine fM rfl ?_
    refine Mid.callR [0, 1] (e1) rfl rfl rfl rfl (by repeat' (first | exact (rfl : stoBd _ [] = true) | refine stoBd_cons (Nat.le_of_ble_eq_true rfl) ?_ ?_ | exact (by first | rfl | (refine open_bd ?_ _ _; exact Nat.le_of_ble_eq_true rfl) | exact pls_bd _ _ | (refine gE_bd ?_ _; exact Nat.le_of_ble_eq_true rfl)))) (by repeat' (first | exact trivial | refine And.intro ?_ ?_ | exact rfl | exact (congrArg some (ren_pls _ _)).symm | (refine (congrArg some (ren_open ?_ _ _ _)).symm; exact rfl) | (refine (congrArg some (AObj.ren_gE ?_ _ _)).symm; intro _; rfl))) rfl (v' := .tup [.t (.lst []), .t (.bool false)]) rfl (ob' := []) (by repeat' (first | exact (rfl : renOb _ [] = []) | refine renOb_cons rfl ?_ ?_ | exact rfl | exact ren_pls _ _ | (refine ren_open ?_ _ _ _; exact rfl) | (refine AObj.ren_gE ?_ _ _; intro _; rfl))) rfl rfl ?_
    refine fM rfl ?_
    refine Mid.callR [2, 3] (e1) rfl rfl rfl rfl (by repeat' (first | exact (rfl : stoBd _ [] = true) | refine stoBd_cons (Nat.le_of_ble_eq_true rfl) ?_ ?_ | exact (by first | rfl | (refine open_bd ?_ _ _; exact Nat.le_of_ble_eq_true rfl) | exact pls_bd _ _ | (refine gE_bd ?_ _; exact Nat.le_of_ble_eq_true rfl)))) (by repeat' (first | exact trivial | refine And.intro ?_ ?_ | exact rfl | exact (congrArg some (ren_pls _ _)).symm | (refine (congrArg some (ren_open ?_ _ _ _)).symm; exact rfl) | (refine (congrArg some (AObj.ren_gE ?_ _ _)).symm; intro _; rfl))) rfl (v' := .tup [.t (.lst []), .t (.bool false)]) rfl (ob' := []) (by repeat' (first | exact (rfl : renOb _ [] = []) | refine renOb_cons rfl ?_ ?_ | exact rfl | exact ren_pls _ _ | (refine ren_open ?_ _ _ _; exact rfl) | (refine AObj.ren_gE ?_ _ _; intro _; rfl))) rfl rfl ?_
    refine fM rfl ?_
    refine caG rfl rfl (fun hg => ⟨_, rfl, e4, rfl⟩) rfl rfl ?_
    refine fM rfl ?_
    refine Mid.ungd rfl rfl rfl ?_
    refine Mid.callR [0, 1] (e3) rfl rfl rfl rfl (by repeat' (first | exact (rfl : stoBd _ [] = true) | refine stoBd_cons (Nat.le_of_ble_eq_true rfl) ?_ ?_ | exact (by first | rfl | (refine open_bd ?_ _ _; exact Nat.le_of_ble_eq_true rfl) | exact pls_bd _ _ | (refine gE_bd ?_ _; exact Nat.le_of_ble_eq_true rfl)))) (by repeat' (first | exact trivial | refine And.intro ?_ ?_ | exact rfl | exact (congrArg some (ren_pls _ _)).symm | (refine (congrArg some (ren_open ?_ _ _ _)).symm; exact rfl) | (refine (congrArg some (AObj.ren_gE ?_ _ _)).symm; intro _; rfl))) rfl (v' := .t (.int .i64 12)) rfl (ob' := []) (by repeat' (first | exact (rfl : renOb _ [] = []) | refine renOb_cons rfl ?_ ?_ | exact rfl | exact ren_pls _ _ | (refine ren_open ?_ _ _ _; exact rfl) | (refine AObj.ren_gE ?_ _ _; intro _; rfl))) rfl rfl ?_
    refine fM rfl ?_
    refine Mid.ungd rfl rfl rfl ?_
    refine Mid.callR [2, 3] (e3) rfl rfl rfl rfl (by repeat' (first | exact (rfl : stoBd _ [] = true) | refine stoBd_cons (Nat.le_of_ble_eq_true rfl) ?_ ?_ | exact (by first | rfl | (refine open_bd ?_ _ _; exact Nat.le_of_ble_eq_true rfl) | exact pls_bd _ _ | (refine gE_bd ?_ _; exact Nat.le_of_ble_eq_true rfl)))) (by repeat' (first | exact trivial | refine And.intro ?_ ?_ | exact rfl | exact (congrArg some (ren_pls _ _)).symm | (refine (congrArg some (ren_open ?_ _ _ _)).symm; exact rfl) | (refine (congrArg some (AObj.ren_gE ?_ _ _)).symm; intro _; rfl))) rfl (v' := .t (.int .i64 12)) rfl (ob' := []) (by repeat' (first | exact (rfl : renOb _ [] = []) | refine renOb_cons rfl ?_ ?_ | exact rfl | exact ren_pls _ _ | (refine ren_open ?_ _ _ _; exact rfl) | (refine AObj.ren_gE ?_ _ _; intro _; rfl))) rfl rfl ?_
    refine fM rfl ?_
    refine Run.condF rfl rfl rfl ?_
    refine fR rfl ?_
    refine Run.loop rfl ?_
    refine Run.unroll ?_
    refine fR rfl ?_
    refine lM rfl rfl rfl ?_
    refine fM rfl ?_
    refine Run.condF rfl rfl rfl ?_
    refine fR rfl ?_
    refine Mid.call (knows_ok H) rfl rfl rfl rfl ?_
    refine fM rfl ?_
    refine Run.fin rfl (EndOk.go ?_); exact .t rfl
  obtain ⟨k0, hk0⟩ : ∃ k, l.length = k + 1 := ⟨l.length - 1, by have := List.length_pos_iff.2 hne; omega⟩
  by_cases hoe : o = []
  · subst hoe
    refine rList l (fun i (B : List Val × List Int × Int) => match i with | 0 => { env := [(1, .t (.lst (l.map Val.enc))), (2, .t (.lst (([] : List Val).map Val.enc))), (7, .ptr 1 0), (9, .ptr 3 0), (11, .t (.int .i64 0))], s := ⟨[(0, .map false [] (some (0, []))), (1, .cells [.t (.int .i64 n), .mp 0, .t (.int .i64 0), .t (.int .i64 0)]), (2, .map false [] (some (0, []))), (3, .cells [.t (.int .i64 n), .mp 2, .t (.int .i64 0), .t (.int .i64 0)])], 4⟩ } | i + 1 => { env := [(1, .t (.lst (l.map Val.enc))), (2, .t (.lst (([] : List Val).map Val.enc))), (7, .ptr 1 0), (9, .ptr 3 0), (11, .t (.int .i64 ((i + 1) : Nat)))], s := ⟨[(0, .map false [([.int .i64 1], .ptr 6 0)] none), (1, .cells [.t (.int .i64 n), .mp 0, .t (.int .i64 0), .t (.int .i64 B.2.2)]), (5, .map false [] none), (6, .cells [.own 10 1 (B.2.1.map nE), .gsl 9 (pl (psN B.1 0)).length 0 (pl (psN B.1 0)).length 1, .t (.int .i64 0), .mp 5]), (7, .fobs ((psN B.1 0).map Pl.cs)), (9, .gro (pl (psN B.1 0)).length (gE (pE 7) (pl (psN B.1 0)))), (10, .arr B.2.1.length), (2, .map false [([.int .i64 1], .ptr 13 0)] none), (3, .cells [.t (.int .i64 n), .mp 2, .t (.int .i64 0), .t (.int .i64 B.2.2)]), (12, .map false [] none), (13, .cells [.own 17 1 (B.2.1.map nE), .gsl 16 (pl (psN B.1 0)).length 0 (pl (psN B.1 0)).length 1, .t (.int .i64 0), .mp 12]), (14, .fobs ((psN B.1 0).map Pl.cs)), (16, .gro (pl (psN B.1 0)).length (gE (pE 14) (pl (psN B.1 0)))), (17, .arr B.2.1.length)], 18⟩ }) (fun r i B => i ≠ 0 → Tk (l.take i) B.1 B.2.1 B.2.2) 4 ([], [], 0) rfl (by simp) rfl rfl rfl ?_ ?_
    · rintro ⟨D, tk, s⟩ hinv
      have hT := hinv (by omega)
      rw [List.take_length] at hT
      dsimp only at hT
      rw [hk0]
      dsimp only
      have hDk : ∀ v, v ∈ D → v.Ok := fun v hv => ho v (hT.sub v hv)
      have hsv := hT.sv
      have hle := hT.le
      have htl := hT.len
      have hDl : D.length ≤ 100 := by omega
      have hDp := hT.pos (by omega)
      have f0 := next_n9 H n 0 s 2 [([.int .i64 (1 : Int)], .ptr 4 0)] none [(3, .map false [] none), (4, .cells [.own 8 1 (tk.map nE), .gsl 7 (pl (psN D 0)).length 0 (pl (psN D 0)).length 1, .t (.int .i64 0), .mp 3]), (5, .fobs ((psN D 0).map Pl.cs)), (7, .gro (pl (psN D 0)).length (gE (pE 5) (pl (psN D 0)))), (8, .arr tk.length)] rfl rfl (by repeat' (first | exact (rfl : stoBd _ [] = true) | refine stoBd_cons (Nat.le_of_ble_eq_true rfl) ?_ ?_ | exact (by first | rfl | (refine open_bd ?_ _ _; exact Nat.le_of_ble_eq_true rfl) | exact pls_bd _ _ | (refine gE_bd ?_ _; exact Nat.le_of_ble_eq_true rfl))))
      have e1 := next_ok H n 0 s 1 0 tk (psN D 0) [([.int .i64 (1 : Int)], .ptr 4 0)] (by decide) hnb (by rw [psN_len]; omega) (Nat.zero_le _) (psN_ok hDk) rfl rfl (fun m h => by simp [V.bds, V.bd]; omega)
      have f1 := e1
      generalize hk : batch n 0 (psN D 0) = k at e1 f1
      have hk2 : k ≤ D.length ∧ 0 < k := by rw [← hk, batch, psN_len]; omega
      rw [reps_psN, psN_len, if_pos hDp, show decide (0 < D.length) = true by simp; omega, Nat.zero_add] at e1 f1
      generalize hb : (D.drop 0).take k = b at e1 f1
      have hbl : b.length = k := by rw [← hb]; simp; omega
      have hbk : ∀ v, v ∈ b → v.Ok := fun v hv => hDk v (by rw [← hb] at hv; exact List.mem_of_mem_drop (List.mem_of_mem_take hv))
      have e4 := same_ok H b b (by omega) (by omega) hbk hbk
      rw [sameL_refl] at e4
      have e5 := done_ok H n 1 s 1 k 0 tk (psN D 0) b [([.int .i64 (1 : Int)], .ptr 4 0)] (by omega) hbk (by omega) (by rw [psN_len]; omega) (by rw [psN_len]; omega) (psN_ok hDk) rfl rfl (fun m h => by simp [V.bds, V.bd]; omega)
      have f5 := e5
      rw [hbl] at e5 f5
      have hqk : ∀ p, p ∈ setR (psN D 0) 0 b → p.Ok := setR_ok b _ 0 hbk (psN_ok hDk)
      have hql : (setR (psN D 0) 0 b).length = D.length := by rw [setR_len, psN_len]
      generalize setR (psN D 0) 0 b = q at e5 f5 hqk hql
      refine fR rfl ?_
      refine lM rfl rfl rfl ?_
      refine fM rfl ?_
      refine Run.condF rfl rfl (by simp; omega) ?_
      refine fR rfl ?_
      refine Mid.callR [2, 3, 11, 12, 13, 14, 15, 16, 17] (f0) rfl rfl rfl rfl (by repeat' (first | exact (rfl : stoBd _ [] = true) | refine stoBd_cons (Nat.le_of_ble_eq_true rfl) ?_ ?_ | exact (by first | rfl | (refine open_bd ?_ _ _; exact Nat.le_of_ble_eq_true rfl) | exact pls_bd _ _ | (refine gE_bd ?_ _; exact Nat.le_of_ble_eq_true rfl)))) (by repeat' (first | exact trivial | refine And.intro ?_ ?_ | exact rfl | exact (congrArg some (ren_pls _ _)).symm | (refine (congrArg some (ren_open ?_ _ _ _)).symm; exact rfl) | (refine (congrArg some (AObj.ren_gE ?_ _ _)).symm; intro _; rfl))) rfl (v' := .tup [.t (.lst []), .t (.bool false)]) rfl (ob' := []) (by repeat' (first | exact (rfl : renOb _ [] = []) | refine renOb_cons rfl ?_ ?_ | exact rfl | exact ren_pls _ _ | (refine ren_open ?_ _ _ _; exact rfl) | (refine AObj.ren_gE ?_ _ _; intro _; rfl))) rfl rfl ?_
      refine fM rfl ?_
      refine Mid.callR [0, 1, 4, 5, 6, 7, 8, 9, 10] (e1) rfl rfl rfl rfl (by repeat' (first | exact (rfl : stoBd _ [] = true) | refine stoBd_cons (Nat.le_of_ble_eq_true rfl) ?_ ?_ | exact (by first | rfl | (refine open_bd ?_ _ _; exact Nat.le_of_ble_eq_true rfl) | exact pls_bd _ _ | (refine gE_bd ?_ _; exact Nat.le_of_ble_eq_true rfl)))) (by repeat' (first | exact trivial | refine And.intro ?_ ?_ | exact rfl | exact (congrArg some (ren_pls _ _)).symm | (refine (congrArg some (ren_open ?_ _ _ _)).symm; exact rfl) | (refine (congrArg some (AObj.ren_gE ?_ _ _)).symm; intro _; rfl))) rfl (v' := .tup [.t (.lst (b.map Val.enc)), .t (.bool true)]) rfl (ob' := [(1, .cells [.t (.int .i64 n), .mp 0, .t (.int .i64 1), .t (.int .i64 s)]), (5, .map false (openE 7 0 k) none), (6, .cells [.own 10 1 (tk.map nE), .gsl 9 (pl (psN D 0)).length 0 (pl (psN D 0)).length 1, .t (.int .i64 (k : Nat)), .mp 5])]) (by repeat' (first | exact (rfl : renOb _ [] = []) | refine renOb_cons rfl ?_ ?_ | exact rfl | exact ren_pls _ _ | (refine ren_open ?_ _ _ _; exact rfl) | (refine AObj.ren_gE ?_ _ _; intro _; rfl))) rfl rfl ?_
      refine fM rfl ?_
      refine Mid.callR [2, 3, 11, 12, 13, 14, 15, 16, 17] (f1) rfl rfl rfl rfl (by repeat' (first | exact (rfl : stoBd _ [] = true) | refine stoBd_cons (Nat.le_of_ble_eq_true rfl) ?_ ?_ | exact (by first | rfl | (refine open_bd ?_ _ _; exact Nat.le_of_ble_eq_true rfl) | exact pls_bd _ _ | (refine gE_bd ?_ _; exact Nat.le_of_ble_eq_true rfl)))) (by repeat' (first | exact trivial | refine And.intro ?_ ?_ | exact rfl | exact (congrArg some (ren_pls _ _)).symm | (refine (congrArg some (ren_open ?_ _ _ _)).symm; exact rfl) | (refine (congrArg some (AObj.ren_gE ?_ _ _)).symm; intro _; rfl))) rfl (v' := .tup [.t (.lst (b.map Val.enc)), .t (.bool true)]) rfl (ob' := [(3, .cells [.t (.int .i64 n), .mp 2, .t (.int .i64 1), .t (.int .i64 s)]), (12, .map false (openE 14 0 k) none), (13, .cells [.own 17 1 (tk.map nE), .gsl 16 (pl (psN D 0)).length 0 (pl (psN D 0)).length 1, .t (.int .i64 (k : Nat)), .mp 12])]) (by repeat' (first | exact (rfl : renOb _ [] = []) | refine renOb_cons rfl ?_ ?_ | exact rfl | exact ren_pls _ _ | (refine ren_open ?_ _ _ _; exact rfl) | (refine AObj.ren_gE ?_ _ _; intro _; rfl))) rfl rfl ?_
      refine fM rfl ?_
      refine caG rfl rfl (fun hg => ⟨_, rfl, e4, rfl⟩) rfl rfl ?_
      refine fM rfl ?_
      refine Mid.ungd rfl rfl rfl ?_
      refine Mid.callR [0, 1, 4, 5, 6, 7, 8, 9, 10] (e5) rfl rfl rfl rfl (by repeat' (first | exact (rfl : stoBd _ [] = true) | refine stoBd_cons (Nat.le_of_ble_eq_true rfl) ?_ ?_ | exact (by first | rfl | (refine open_bd ?_ _ _; exact Nat.le_of_ble_eq_true rfl) | exact pls_bd _ _ | (refine gE_bd ?_ _; exact Nat.le_of_ble_eq_true rfl)))) (by repeat' (first | exact trivial | refine And.intro ?_ ?_ | exact rfl | exact (congrArg some (ren_pls _ _)).symm | (refine (congrArg some (ren_open ?_ _ _ _)).symm; exact rfl) | (refine (congrArg some (AObj.ren_gE ?_ _ _)).symm; intro _; rfl))) rfl (v' := .t (.int .i64 0)) rfl (ob' := [(5, .map false [] none), (6, .cells [.own 10 1 (tk.map nE), .gsl 9 (pl q).length 0 (pl q).length 1, .t (.int .i64 (k : Nat)), .mp 5]), (7, .fobs (q.map Pl.cs)), (9, .gro (pl q).length (gE (pE 7) (pl q)))]) (by repeat' (first | exact (rfl : renOb _ [] = []) | refine renOb_cons rfl ?_ ?_ | exact rfl | exact ren_pls _ _ | (refine ren_open ?_ _ _ _; exact rfl) | (refine AObj.ren_gE ?_ _ _; intro _; rfl))) rfl rfl ?_
      refine fM rfl ?_
      refine Mid.ungd rfl rfl rfl ?_
      refine Mid.callR [2, 3, 11, 12, 13, 14, 15, 16, 17] (f5) rfl rfl rfl rfl (by repeat' (first | exact (rfl : stoBd _ [] = true) | refine stoBd_cons (Nat.le_of_ble_eq_true rfl) ?_ ?_ | exact (by first | rfl | (refine open_bd ?_ _ _; exact Nat.le_of_ble_eq_true rfl) | exact pls_bd _ _ | (refine gE_bd ?_ _; exact Nat.le_of_ble_eq_true rfl)))) (by repeat' (first | exact trivial | refine And.intro ?_ ?_ | exact rfl | exact (congrArg some (ren_pls _ _)).symm | (refine (congrArg some (ren_open ?_ _ _ _)).symm; exact rfl) | (refine (congrArg some (AObj.ren_gE ?_ _ _)).symm; intro _; rfl))) rfl (v' := .t (.int .i64 0)) rfl (ob' := [(12, .map false [] none), (13, .cells [.own 17 1 (tk.map nE), .gsl 16 (pl q).length 0 (pl q).length 1, .t (.int .i64 (k : Nat)), .mp 12]), (14, .fobs (q.map Pl.cs)), (16, .gro (pl q).length (gE (pE 14) (pl q)))]) (by repeat' (first | exact (rfl : renOb _ [] = []) | refine renOb_cons rfl ?_ ?_ | exact rfl | exact ren_pls _ _ | (refine ren_open ?_ _ _ _; exact rfl) | (refine AObj.ren_gE ?_ _ _; intro _; rfl))) rfl rfl ?_
      refine fM rfl ?_
      refine Run.condF rfl rfl rfl ?_
      refine fR rfl ?_
      refine rList l (fun i (_ : Unit) => { env := [(1, .t (.lst (l.map Val.enc))), (7, .ptr 1 0), (9, .ptr 3 0), (16, .t (.int .i64 (i : Nat)))], s := ⟨[(0, .map false [([.int .i64 1], .ptr 6 0)] none), (1, .cells [.t (.int .i64 n), .mp 0, .t (.int .i64 1), .t (.int .i64 s)]), (5, .map false [] none), (6, .cells [.own 10 1 (tk.map nE), .gsl 9 (pl q).length 0 (pl q).length 1, .t (.int .i64 (k : Nat)), .mp 5]), (7, .fobs (q.map Pl.cs)), (9, .gro (pl q).length (gE (pE 7) (pl q))), (10, .arr tk.length), (2, .map false [([.int .i64 1], .ptr 13 0)] none), (3, .cells [.t (.int .i64 n), .mp 2, .t (.int .i64 1), .t (.int .i64 s)]), (12, .map false [] none), (13, .cells [.own 17 1 (tk.map nE), .gsl 16 (pl q).length 0 (pl q).length 1, .t (.int .i64 (k : Nat)), .mp 12]), (14, .fobs (q.map Pl.cs)), (16, .gro (pl q).length (gE (pE 14) (pl q))), (17, .arr tk.length)], 18⟩ }) (fun r i _ => True) 18 () rfl trivial rfl rfl rfl ?_ ?_ (he := (by repeat' (first | exact trivial | exact LeX.t | exact LeX.top | exact LeX.nilOwn (Nat.le_of_ble_eq_true rfl) (Nat.le_of_ble_eq_true rfl) | exact LeX.ownT | exact LeX.nilT | exact LeX.same rfl | exact LeX.tEq (by simp) | exact LeX.ownEq (by simp) (Nat.le_of_ble_eq_true rfl) | exact LeX.tEq (by congr 1 <;> omega) | exact Or.inr ⟨Nat.le_of_ble_eq_true rfl, Nat.le_of_ble_eq_true rfl, rfl⟩ | refine Or.inl ⟨Nat.le_of_ble_eq_true rfl, _, rfl, ?_⟩ | refine LeO.cells ?_ | exact LeO.arr rfl | exact LeO.arr (by simp) | exact LeO.mE (by first | rfl | simp) (by first | exact Or.inl rfl | exact Or.inr rfl) | exact LeO.cE (by first | rfl | simp) | exact LeXs.cE (by first | rfl | simp) | refine LeO.map (by first | rfl | simp) ?_ (by first | exact Or.inl rfl | exact Or.inr rfl) | exact LeO.iter (by first | rfl | simp) (Nat.le_of_ble_eq_true rfl) | refine LeXs.cons ?_ ?_ | exact LeXs.nil | refine And.intro ?_ ?_))) (hs := (by repeat' (first | exact trivial | refine And.intro ?_ ?_ | exact Or.inl ⟨(Nat.le_of_ble_eq_true rfl), _, rfl, LeO.arr (by simp)⟩ | exact Or.inr ⟨Nat.le_of_ble_eq_true rfl, Nat.le_of_ble_eq_true rfl, rfl⟩ | exact Or.inl ⟨(Nat.le_of_ble_eq_true rfl), _, rfl, AObj.leSame (by first | rfl | (refine open_bd ?_ _ _; exact Nat.le_of_ble_eq_true rfl) | exact pls_bd _ _ | (refine gE_bd ?_ _; exact Nat.le_of_ble_eq_true rfl))⟩)))
      · rintro _ _
        refine fR rfl ?_
        refine lM rfl rfl rfl ?_
        refine fM rfl ?_
        refine Run.condF rfl rfl (by simp) ?_
        refine fR rfl ?_
        refine Mid.call (knows_ok H) rfl rfl rfl rfl ?_
        refine fM rfl ?_
        refine Run.fin rfl (EndOk.go ?_); exact .t rfl
      · rintro i v r _ h1 hi hd _ ih2
        obtain ⟨a, x, ha, hx, hxv⟩ := hT.at_ i v h1
        have halt := (List.getElem?_eq_some_iff.1 hx).1
        obtain ⟨p, hp⟩ : ∃ p, q[a]? = some p := ⟨_, List.getElem?_eq_getElem (by omega)⟩
        have hpk := hqk p (List.mem_of_getElem? hp)
        have e2 := take_ok H n 1 s 1 k tk q [] [([.int .i64 (1 : Int)], .ptr 4 0)] i a p ha hp hpk (by omega) (by omega) rfl rfl (fun m h => by simp [V.bds, V.bd]; omega) (fun _ _ => rfl)
        have f2 := e2
        have hzk : (if p.ld then p.res else Val.zero).Ok := by split; exact hpk.s; exact Val.zero_ok
        generalize (if p.ld then p.res else Val.zero) = z at e2 f2 hzk
        have e3 := rsame_ok H z z hzk hzk
        rw [sameV_refl] at e3
        generalize p.ld = g at e2 f2
        refine fR rfl ?_
        refine lM rfl rfl rfl ?_
        refine fM rfl ?_
        refine Run.condT rfl rfl (by simp; omega) ?_
        refine fR rfl ?_
        refine Mid.callR [0, 1, 4, 5, 6, 7, 8, 9, 10] (e2) rfl rfl rfl rfl (by repeat' (first | exact (rfl : stoBd _ [] = true) | refine stoBd_cons (Nat.le_of_ble_eq_true rfl) ?_ ?_ | exact (by first | rfl | (refine open_bd ?_ _ _; exact Nat.le_of_ble_eq_true rfl) | exact pls_bd _ _ | (refine gE_bd ?_ _; exact Nat.le_of_ble_eq_true rfl)))) (by repeat' (first | exact trivial | refine And.intro ?_ ?_ | exact rfl | exact (congrArg some (ren_pls _ _)).symm | (refine (congrArg some (ren_open ?_ _ _ _)).symm; exact rfl) | (refine (congrArg some (AObj.ren_gE ?_ _ _)).symm; intro _; rfl))) rfl (v' := .tup [z.v, .t (.bool g)]) rfl (ob' := []) (by repeat' (first | exact (rfl : renOb _ [] = []) | refine renOb_cons rfl ?_ ?_ | exact rfl | exact ren_pls _ _ | (refine ren_open ?_ _ _ _; exact rfl) | (refine AObj.ren_gE ?_ _ _; intro _; rfl))) rfl rfl ?_
        refine fM rfl ?_
        refine Mid.callR [2, 3, 11, 12, 13, 14, 15, 16, 17] (f2) rfl rfl rfl rfl (by repeat' (first | exact (rfl : stoBd _ [] = true) | refine stoBd_cons (Nat.le_of_ble_eq_true rfl) ?_ ?_ | exact (by first | rfl | (refine open_bd ?_ _ _; exact Nat.le_of_ble_eq_true rfl) | exact pls_bd _ _ | (refine gE_bd ?_ _; exact Nat.le_of_ble_eq_true rfl)))) (by repeat' (first | exact trivial | refine And.intro ?_ ?_ | exact rfl | exact (congrArg some (ren_pls _ _)).symm | (refine (congrArg some (ren_open ?_ _ _ _)).symm; exact rfl) | (refine (congrArg some (AObj.ren_gE ?_ _ _)).symm; intro _; rfl))) rfl (v' := .tup [z.v, .t (.bool g)]) rfl (ob' := []) (by repeat' (first | exact (rfl : renOb _ [] = []) | refine renOb_cons rfl ?_ ?_ | exact rfl | exact ren_pls _ _ | (refine ren_open ?_ _ _ _; exact rfl) | (refine AObj.ren_gE ?_ _ _; intro _; rfl))) rfl rfl ?_
        refine fM rfl ?_
        cases g with
        | false =>
          skip
          refine caG rfl rfl (fun hg => ⟨_, rfl, e3, rfl⟩) rfl rfl ?_
          refine fM rfl ?_
          refine Run.condF rfl rfl rfl ?_
          refine fR rfl ?_
          refine aL rfl rfl rfl rfl rfl ?_
          refine fM rfl ?_
          exact rWeak 18 rfl (ih2 () trivial) rfl rfl rfl (he := (by repeat' (first | exact trivial | exact LeX.t | exact LeX.top | exact LeX.nilOwn (Nat.le_of_ble_eq_true rfl) (Nat.le_of_ble_eq_true rfl) | exact LeX.ownT | exact LeX.nilT | exact LeX.same rfl | exact LeX.tEq (by simp) | exact LeX.ownEq (by simp) (Nat.le_of_ble_eq_true rfl) | exact LeX.tEq (by congr 1 <;> omega) | exact Or.inr ⟨Nat.le_of_ble_eq_true rfl, Nat.le_of_ble_eq_true rfl, rfl⟩ | refine Or.inl ⟨Nat.le_of_ble_eq_true rfl, _, rfl, ?_⟩ | refine LeO.cells ?_ | exact LeO.arr rfl | exact LeO.arr (by simp) | exact LeO.mE (by first | rfl | simp) (by first | exact Or.inl rfl | exact Or.inr rfl) | exact LeO.cE (by first | rfl | simp) | exact LeXs.cE (by first | rfl | simp) | refine LeO.map (by first | rfl | simp) ?_ (by first | exact Or.inl rfl | exact Or.inr rfl) | exact LeO.iter (by first | rfl | simp) (Nat.le_of_ble_eq_true rfl) | refine LeXs.cons ?_ ?_ | exact LeXs.nil | refine And.intro ?_ ?_))) (hs := (by repeat' (first | exact trivial | refine And.intro ?_ ?_ | exact Or.inl ⟨(Nat.le_of_ble_eq_true rfl), _, rfl, LeO.arr (by simp)⟩ | exact Or.inr ⟨Nat.le_of_ble_eq_true rfl, Nat.le_of_ble_eq_true rfl, rfl⟩ | exact Or.inl ⟨(Nat.le_of_ble_eq_true rfl), _, rfl, AObj.leSame (by first | rfl | (refine open_bd ?_ _ _; exact Nat.le_of_ble_eq_true rfl) | exact pls_bd _ _ | (refine gE_bd ?_ _; exact Nat.le_of_ble_eq_true rfl))⟩)))
        | true =>
          skip
          refine caG rfl rfl (fun hg => ⟨_, rfl, e3, rfl⟩) rfl rfl ?_
          refine fM rfl ?_
          refine Run.condF rfl rfl rfl ?_
          refine fR rfl ?_
          refine aL rfl rfl rfl rfl rfl ?_
          refine fM rfl ?_
          exact rWeak 18 rfl (ih2 () trivial) rfl rfl rfl (he := (by repeat' (first | exact trivial | exact LeX.t | exact LeX.top | exact LeX.nilOwn (Nat.le_of_ble_eq_true rfl) (Nat.le_of_ble_eq_true rfl) | exact LeX.ownT | exact LeX.nilT | exact LeX.same rfl | exact LeX.tEq (by simp) | exact LeX.ownEq (by simp) (Nat.le_of_ble_eq_true rfl) | exact LeX.tEq (by congr 1 <;> omega) | exact Or.inr ⟨Nat.le_of_ble_eq_true rfl, Nat.le_of_ble_eq_true rfl, rfl⟩ | refine Or.inl ⟨Nat.le_of_ble_eq_true rfl, _, rfl, ?_⟩ | refine LeO.cells ?_ | exact LeO.arr rfl | exact LeO.arr (by simp) | exact LeO.mE (by first | rfl | simp) (by first | exact Or.inl rfl | exact Or.inr rfl) | exact LeO.cE (by first | rfl | simp) | exact LeXs.cE (by first | rfl | simp) | refine LeO.map (by first | rfl | simp) ?_ (by first | exact Or.inl rfl | exact Or.inr rfl) | exact LeO.iter (by first | rfl | simp) (Nat.le_of_ble_eq_true rfl) | refine LeXs.cons ?_ ?_ | exact LeXs.nil | refine And.intro ?_ ?_))) (hs := (by repeat' (first | exact trivial | refine And.intro ?_ ?_ | exact Or.inl ⟨(Nat.le_of_ble_eq_true rfl), _, rfl, LeO.arr (by simp)⟩ | exact Or.inr ⟨Nat.le_of_ble_eq_true rfl, Nat.le_of_ble_eq_true rfl, rfl⟩ | exact Or.inl ⟨(Nat.le_of_ble_eq_true rfl), _, rfl, AObj.leSame (by first | rfl | (refine open_bd ?_ _ _; exact Nat.le_of_ble_eq_true rfl) | exact pls_bd _ _ | (refine gE_bd ?_ _; exact Nat.le_of_ble_eq_true rfl))⟩)))
    · rintro i x r ⟨D, tk, s⟩ h1 hi hd hinv ih
      have hxk := ho x (List.mem_of_getElem? h1)
      have htk1 : l.take (i + 1) = l.take i ++ [x] := by rw [List.take_add_one, h1]; rfl
      cases i with
      | zero =>
        dsimp only
        refine fR rfl ?_
        refine lM rfl rfl rfl ?_
        refine fM rfl ?_
        refine Run.condT rfl rfl (by simp; omega) ?_
        refine fR rfl ?_
        refine Mid.elemMapC (Val.enc_eq x) rfl rfl rfl h1 rfl rfl ?_
        refine fM rfl ?_
        refine Mid.callR [0, 1] (add_first H n 0 0 1 (by decide) x hxk (some (0, []))) rfl rfl rfl rfl (by repeat' (first | exact (rfl : stoBd _ [] = true) | refine stoBd_cons (Nat.le_of_ble_eq_true rfl) ?_ ?_ | exact (by first | rfl | (refine open_bd ?_ _ _; exact Nat.le_of_ble_eq_true rfl) | exact pls_bd _ _ | (refine gE_bd ?_ _; exact Nat.le_of_ble_eq_true rfl)))) (by repeat' (first | exact trivial | refine And.intro ?_ ?_ | exact rfl | exact (congrArg some (ren_pls _ _)).symm | (refine (congrArg some (ren_open ?_ _ _ _)).symm; exact rfl) | (refine (congrArg some (AObj.ren_gE ?_ _ _)).symm; intro _; rfl))) rfl (v' := .tup [.t (.int .i64 0), .t (.int .i64 0)]) rfl (ob' := [(0, .map false [([.int .i64 1], .ptr 6 0)] none), (5, .map false [] none), (6, .cells [.own 10 1 ([(0 : Int)].map nE), .gsl 9 (pl (psN [x] 0)).length 0 (pl (psN [x] 0)).length 1, .t (.int .i64 0), .mp 5]), (7, .fobs ((psN [x] 0).map Pl.cs)), (9, .gro (pl (psN [x] 0)).length (gE (pE 7) (pl (psN [x] 0)))), (10, .arr [(0 : Int)].length)]) (by repeat' (first | exact (rfl : renOb _ [] = []) | refine renOb_cons rfl ?_ ?_ | exact rfl | exact ren_pls _ _ | (refine ren_open ?_ _ _ _; exact rfl) | (refine AObj.ren_gE ?_ _ _; intro _; rfl))) rfl rfl ?_
        refine fM rfl ?_
        refine Mid.elemMapC (Val.enc_eq x) rfl rfl rfl h1 rfl rfl ?_
        refine fM rfl ?_
        refine Mid.callR [2, 3] (add_first H n 0 0 1 (by decide) x hxk (some (0, []))) rfl rfl rfl rfl (by repeat' (first | exact (rfl : stoBd _ [] = true) | refine stoBd_cons (Nat.le_of_ble_eq_true rfl) ?_ ?_ | exact (by first | rfl | (refine open_bd ?_ _ _; exact Nat.le_of_ble_eq_true rfl) | exact pls_bd _ _ | (refine gE_bd ?_ _; exact Nat.le_of_ble_eq_true rfl)))) (by repeat' (first | exact trivial | refine And.intro ?_ ?_ | exact rfl | exact (congrArg some (ren_pls _ _)).symm | (refine (congrArg some (ren_open ?_ _ _ _)).symm; exact rfl) | (refine (congrArg some (AObj.ren_gE ?_ _ _)).symm; intro _; rfl))) rfl (v' := .tup [.t (.int .i64 0), .t (.int .i64 0)]) rfl (ob' := [(2, .map false [([.int .i64 1], .ptr 13 0)] none), (12, .map false [] none), (13, .cells [.own 17 1 ([(0 : Int)].map nE), .gsl 16 (pl (psN [x] 0)).length 0 (pl (psN [x] 0)).length 1, .t (.int .i64 0), .mp 12]), (14, .fobs ((psN [x] 0).map Pl.cs)), (16, .gro (pl (psN [x] 0)).length (gE (pE 14) (pl (psN [x] 0)))), (17, .arr [(0 : Int)].length)]) (by repeat' (first | exact (rfl : renOb _ [] = []) | refine renOb_cons rfl ?_ ?_ | exact rfl | exact ren_pls _ _ | (refine ren_open ?_ _ _ _; exact rfl) | (refine AObj.ren_gE ?_ _ _; intro _; rfl))) rfl rfl ?_
        refine fM rfl ?_
        refine lM rfl rfl rfl ?_
        refine fM rfl ?_
        refine Run.condF rfl rfl rfl ?_
        refine fR rfl ?_
        refine a64 rfl rfl rfl ?_
        refine fM rfl ?_
        exact rWeak 18 rfl (ih ([x], [0], 0) (fun _ => by rw [htk1]; simpa using Tk.one x)) rfl rfl rfl (he := (by repeat' (first | exact trivial | exact LeX.t | exact LeX.top | exact LeX.nilOwn (Nat.le_of_ble_eq_true rfl) (Nat.le_of_ble_eq_true rfl) | exact LeX.ownT | exact LeX.nilT | exact LeX.same rfl | exact LeX.tEq (by simp) | exact LeX.ownEq (by simp) (Nat.le_of_ble_eq_true rfl) | exact LeX.tEq (by congr 1 <;> omega) | exact Or.inr ⟨Nat.le_of_ble_eq_true rfl, Nat.le_of_ble_eq_true rfl, rfl⟩ | refine Or.inl ⟨Nat.le_of_ble_eq_true rfl, _, rfl, ?_⟩ | refine LeO.cells ?_ | exact LeO.arr rfl | exact LeO.arr (by simp) | exact LeO.mE (by first | rfl | simp) (by first | exact Or.inl rfl | exact Or.inr rfl) | exact LeO.cE (by first | rfl | simp) | exact LeXs.cE (by first | rfl | simp) | refine LeO.map (by first | rfl | simp) ?_ (by first | exact Or.inl rfl | exact Or.inr rfl) | exact LeO.iter (by first | rfl | simp) (Nat.le_of_ble_eq_true rfl) | refine LeXs.cons ?_ ?_ | exact LeXs.nil | refine And.intro ?_ ?_))) (hs := (by repeat' (first | exact trivial | refine And.intro ?_ ?_ | exact Or.inl ⟨(Nat.le_of_ble_eq_true rfl), _, rfl, LeO.arr (by simp)⟩ | exact Or.inr ⟨Nat.le_of_ble_eq_true rfl, Nat.le_of_ble_eq_true rfl, rfl⟩ | exact Or.inl ⟨(Nat.le_of_ble_eq_true rfl), _, rfl, AObj.leSame (by first | rfl | (refine open_bd ?_ _ _; exact Nat.le_of_ble_eq_true rfl) | exact pls_bd _ _ | (refine gE_bd ?_ _; exact Nat.le_of_ble_eq_true rfl))⟩)))
      | succ i =>
        dsimp only
        have hT := hinv (by simp)
        have hDk : ∀ v, v ∈ D → v.Ok := fun v hv => ho v (List.mem_of_mem_take (hT.sub v hv))
        have hsv := hT.sv
        have hle := hT.le
        have htl := hT.len
        rw [List.length_take, Nat.min_eq_left (by omega)] at hsv hle htl
        dsimp only at hsv hle htl
        have e1 := add_ok H n 0 s 1 0 tk (psN D 0) [] [([.int .i64 (1 : Int)], .ptr 4 0)] (by decide) x hxk (by omega) (by omega) (by rw [psN_len]; omega) (psN_ok hDk) rfl rfl (fun m h => by simp [V.bds, V.bd]; omega) (fun _ _ => rfl)
        rw [addPs_psN] at e1
        have hP := hT.push x
        rw [← htk1] at hP
        refine fR rfl ?_
        refine lM rfl rfl rfl ?_
        refine fM rfl ?_
        refine Run.condT rfl rfl (by simp; omega) ?_
        refine fR rfl ?_
        refine Mid.elemMapC (Val.enc_eq x) rfl rfl rfl h1 rfl rfl ?_
        refine fM rfl ?_
        generalize (addAt (psN D 0) x : Int) = at_ at e1 hP
        generalize s + addS (psN D 0) x = t2 at e1 hP
        refine Mid.callR [0, 1, 4, 5, 6, 7, 8, 9, 10] (e1) rfl rfl rfl rfl (by repeat' (first | exact (rfl : stoBd _ [] = true) | refine stoBd_cons (Nat.le_of_ble_eq_true rfl) ?_ ?_ | exact (by first | rfl | (refine open_bd ?_ _ _; exact Nat.le_of_ble_eq_true rfl) | exact pls_bd _ _ | (refine gE_bd ?_ _; exact Nat.le_of_ble_eq_true rfl)))) (by repeat' (first | exact trivial | refine And.intro ?_ ?_ | exact rfl | exact (congrArg some (ren_pls _ _)).symm | (refine (congrArg some (ren_open ?_ _ _ _)).symm; exact rfl) | (refine (congrArg some (AObj.ren_gE ?_ _ _)).symm; intro _; rfl))) rfl (v' := .tup [.t (.int .i64 tk.length), .t (.int .i64 0)]) rfl (ob' := [(1, .cells [.t (.int .i64 n), .mp 0, .t (.int .i64 0), .t (.int .i64 t2)]), (6, .cells [.own 10 1 ((tk ++ [at_]).map nE), .gsl 9 (pl (psN (addD D x) 0)).length 0 (pl (psN (addD D x) 0)).length 1, .t (.int .i64 0), .mp 5]), (7, .fobs ((psN (addD D x) 0).map Pl.cs)), (9, .gro (pl (psN (addD D x) 0)).length (gE (pE 7) (pl (psN (addD D x) 0)))), (10, .arr (tk ++ [at_]).length)]) (by repeat' (first | exact (rfl : renOb _ [] = []) | refine renOb_cons rfl ?_ ?_ | exact rfl | exact ren_pls _ _ | (refine ren_open ?_ _ _ _; exact rfl) | (refine AObj.ren_gE ?_ _ _; intro _; rfl))) rfl rfl ?_
        refine fM rfl ?_
        refine Mid.elemMapC (Val.enc_eq x) rfl rfl rfl h1 rfl rfl ?_
        refine fM rfl ?_
        refine Mid.callR [2, 3, 11, 12, 13, 14, 15, 16, 17] (e1) rfl rfl rfl rfl (by repeat' (first | exact (rfl : stoBd _ [] = true) | refine stoBd_cons (Nat.le_of_ble_eq_true rfl) ?_ ?_ | exact (by first | rfl | (refine open_bd ?_ _ _; exact Nat.le_of_ble_eq_true rfl) | exact pls_bd _ _ | (refine gE_bd ?_ _; exact Nat.le_of_ble_eq_true rfl)))) (by repeat' (first | exact trivial | refine And.intro ?_ ?_ | exact rfl | exact (congrArg some (ren_pls _ _)).symm | (refine (congrArg some (ren_open ?_ _ _ _)).symm; exact rfl) | (refine (congrArg some (AObj.ren_gE ?_ _ _)).symm; intro _; rfl))) rfl (v' := .tup [.t (.int .i64 tk.length), .t (.int .i64 0)]) rfl (ob' := [(3, .cells [.t (.int .i64 n), .mp 2, .t (.int .i64 0), .t (.int .i64 t2)]), (13, .cells [.own 17 1 ((tk ++ [at_]).map nE), .gsl 16 (pl (psN (addD D x) 0)).length 0 (pl (psN (addD D x) 0)).length 1, .t (.int .i64 0), .mp 12]), (14, .fobs ((psN (addD D x) 0).map Pl.cs)), (16, .gro (pl (psN (addD D x) 0)).length (gE (pE 14) (pl (psN (addD D x) 0)))), (17, .arr (tk ++ [at_]).length)]) (by repeat' (first | exact (rfl : renOb _ [] = []) | refine renOb_cons rfl ?_ ?_ | exact rfl | exact ren_pls _ _ | (refine ren_open ?_ _ _ _; exact rfl) | (refine AObj.ren_gE ?_ _ _; intro _; rfl))) rfl rfl ?_
        refine fM rfl ?_
        refine lM rfl rfl rfl ?_
        refine fM rfl ?_
        refine Run.condF rfl rfl (by simp; omega) ?_
        refine fR rfl ?_
        refine aL rfl rfl rfl rfl rfl ?_
        refine fM rfl ?_
        exact rWeak 18 rfl (ih (addD D x, tk ++ [at_], t2) (fun _ => hP)) rfl rfl rfl (he := (by repeat' (first | exact trivial | exact LeX.t | exact LeX.top | exact LeX.nilOwn (Nat.le_of_ble_eq_true rfl) (Nat.le_of_ble_eq_true rfl) | exact LeX.ownT | exact LeX.nilT | exact LeX.same rfl | exact LeX.tEq (by simp) | exact LeX.ownEq (by simp) (Nat.le_of_ble_eq_true rfl) | exact LeX.tEq (by congr 1 <;> omega) | exact Or.inr ⟨Nat.le_of_ble_eq_true rfl, Nat.le_of_ble_eq_true rfl, rfl⟩ | refine Or.inl ⟨Nat.le_of_ble_eq_true rfl, _, rfl, ?_⟩ | refine LeO.cells ?_ | exact LeO.arr rfl | exact LeO.arr (by simp) | exact LeO.mE (by first | rfl | simp) (by first | exact Or.inl rfl | exact Or.inr rfl) | exact LeO.cE (by first | rfl | simp) | exact LeXs.cE (by first | rfl | simp) | refine LeO.map (by first | rfl | simp) ?_ (by first | exact Or.inl rfl | exact Or.inr rfl) | exact LeO.iter (by first | rfl | simp) (Nat.le_of_ble_eq_true rfl) | refine LeXs.cons ?_ ?_ | exact LeXs.nil | refine And.intro ?_ ?_))) (hs := (by repeat' (first | exact trivial | refine And.intro ?_ ?_ | exact Or.inl ⟨(Nat.le_of_ble_eq_true rfl), _, rfl, LeO.arr (by simp)⟩ | exact Or.inr ⟨Nat.le_of_ble_eq_true rfl, Nat.le_of_ble_eq_true rfl, rfl⟩ | exact Or.inl ⟨(Nat.le_of_ble_eq_true rfl), _, rfl, AObj.leSame (by first | rfl | (refine open_bd ?_ _ _; exact Nat.le_of_ble_eq_true rfl) | exact pls_bd _ _ | (refine gE_bd ?_ _; exact Nat.le_of_ble_eq_true rfl))⟩)))
  have hop : 0 < o.length := List.length_pos_iff.2 hoe
  refine rList l (fun i (B : (List Val × List Int × Int) × (List Val × List Int × Int)) => match i with | 0 => { env := [(1, .t (.lst (l.map Val.enc))), (2, .t (.lst (o.map Val.enc))), (7, .ptr 1 0), (9, .ptr 3 0), (11, .t (.int .i64 0))], s := ⟨[(0, .map false [] (some (0, []))), (1, .cells [.t (.int .i64 n), .mp 0, .t (.int .i64 0), .t (.int .i64 0)]), (2, .map false [] (some (0, []))), (3, .cells [.t (.int .i64 n), .mp 2, .t (.int .i64 0), .t (.int .i64 0)])], 4⟩ } | i + 1 => { env := [(1, .t (.lst (l.map Val.enc))), (2, .t (.lst (o.map Val.enc))), (7, .ptr 1 0), (9, .ptr 3 0), (11, .t (.int .i64 ((i + 1) : Nat)))], s := ⟨[(0, .map false [([.int .i64 1], .ptr 6 0)] none), (1, .cells [.t (.int .i64 n), .mp 0, .t (.int .i64 0), .t (.int .i64 B.1.2.2)]), (5, .map false [] none), (6, .cells [.own 10 1 (B.1.2.1.map nE), .gsl 9 (pl (psN B.1.1 0)).length 0 (pl (psN B.1.1 0)).length 1, .t (.int .i64 0), .mp 5]), (7, .fobs ((psN B.1.1 0).map Pl.cs)), (9, .gro (pl (psN B.1.1 0)).length (gE (pE 7) (pl (psN B.1.1 0)))), (10, .arr B.1.2.1.length), (2, .map false [([.int .i64 1], .ptr 13 0), ([.int .i64 2], .ptr 20 0)] none), (3, .cells [.t (.int .i64 n), .mp 2, .t (.int .i64 0), .t (.int .i64 B.2.2.2)]), (12, .map false [] none), (13, .cells [.own 17 1 (B.1.2.1.map nE), .gsl 16 (pl (psN B.1.1 0)).length 0 (pl (psN B.1.1 0)).length 1, .t (.int .i64 0), .mp 12]), (14, .fobs ((psN B.1.1 0).map Pl.cs)), (16, .gro (pl (psN B.1.1 0)).length (gE (pE 14) (pl (psN B.1.1 0)))), (17, .arr B.1.2.1.length), (19, .map false [] none), (20, .cells [.own 24 1 (B.2.2.1.map nE), .gsl 23 (pl (psN B.2.1 0)).length 0 (pl (psN B.2.1 0)).length 1, .t (.int .i64 0), .mp 19]), (21, .fobs ((psN B.2.1 0).map Pl.cs)), (23, .gro (pl (psN B.2.1 0)).length (gE (pE 21) (pl (psN B.2.1 0)))), (24, .arr B.2.2.1.length)], 25⟩ }) (fun r i B => i ≠ 0 → Tk (l.take i) B.1.1 B.1.2.1 B.1.2.2 ∧ ∃ s2, Tk (o.take i) B.2.1 B.2.2.1 s2 ∧ B.2.2.2 = B.1.2.2 + s2) 4 (([], [], 0), ([], [], 0)) rfl (by simp) rfl rfl rfl ?_ ?_
  · rintro ⟨⟨D, tk, s⟩, ⟨E, tl, sb⟩⟩ hinv
    obtain ⟨hT, s2, hU, hsb⟩ := hinv (by omega)
    rw [List.take_length] at hT
    dsimp only at hT hU hsb
    generalize ho2 : o.take l.length = o2 at hU
    have hop2 : 0 < o2.length := by rw [← ho2]; simp; omega
    have ho3 : o2.length ≤ 100 := by rw [← ho2]; simp; omega
    have hoo2 : ∀ v, v ∈ o2 → v.Ok := fun v hv => hoo v (List.mem_of_mem_take (by rw [ho2]; exact hv))
    rw [hk0]
    dsimp only
    have hDk : ∀ v, v ∈ D → v.Ok := fun v hv => ho v (hT.sub v hv)
    have hsv := hT.sv
    have hle := hT.le
    have htl := hT.len
    have hDl : D.length ≤ 100 := by omega
    have hDp := hT.pos (by omega)
    have hEk : ∀ v, v ∈ E → v.Ok := fun v hv => hoo2 v (hU.sub v hv)
    have hle2 := hU.le
    have hsv2 := hU.sv
    have htl2 := hU.len
    have hEp := hU.pos hop2
    have f0 := next_ok2 H n 0 sb 2 0 tl (psN E 0) [([.int .i64 (1 : Int)], .ptr 11 0), ([.int .i64 (2 : Int)], .ptr 4 0)] (by decide) hnb (by rw [psN_len]; omega) (Nat.zero_le _) (psN_ok hEk) rfl rfl (fun m h => by simp [V.bds, V.bd]; omega) (.map false [] none) (.cells [.own 15 1 (tk.map nE), .gsl 14 (pl (psN D 0)).length 0 (pl (psN D 0)).length 1, .t (.int .i64 0), .mp 10]) (.fobs ((psN D 0).map Pl.cs)) (.gro (pl (psN D 0)).length (gE (pE 12) (pl (psN D 0)))) (.arr tk.length) (fun _ h => (by first | rfl | exact open_bd (by omega) _ _ | exact pls_bd _ _ | exact gE_bd (by omega) _ | (simp [AObj.bd, V.bds, V.bd]; omega) | (simp [AObj.bd, V.bds, V.bd]; done))) (fun _ h => (by first | rfl | exact open_bd (by omega) _ _ | exact pls_bd _ _ | exact gE_bd (by omega) _ | (simp [AObj.bd, V.bds, V.bd]; omega) | (simp [AObj.bd, V.bds, V.bd]; done))) (fun _ h => (by first | rfl | exact open_bd (by omega) _ _ | exact pls_bd _ _ | exact gE_bd (by omega) _ | (simp [AObj.bd, V.bds, V.bd]; omega) | (simp [AObj.bd, V.bds, V.bd]; done))) (fun _ h => (by first | rfl | exact open_bd (by omega) _ _ | exact pls_bd _ _ | exact gE_bd (by omega) _ | (simp [AObj.bd, V.bds, V.bd]; omega) | (simp [AObj.bd, V.bds, V.bd]; done))) (fun _ h => (by first | rfl | exact open_bd (by omega) _ _ | exact pls_bd _ _ | exact gE_bd (by omega) _ | (simp [AObj.bd, V.bds, V.bd]; omega) | (simp [AObj.bd, V.bds, V.bd]; done)))
    generalize hk3 : batch n 0 (psN E 0) = k2 at f0
    rw [reps_psN, psN_len, if_pos hEp, show decide (0 < E.length) = true by simp; omega, Nat.zero_add] at f0
    generalize (E.drop 0).take k2 = b2 at f0
    have e1 := next_ok H n 0 s 1 0 tk (psN D 0) [([.int .i64 (1 : Int)], .ptr 4 0)] (by decide) hnb (by rw [psN_len]; omega) (Nat.zero_le _) (psN_ok hDk) rfl rfl (fun m h => by simp [V.bds, V.bd]; omega)
    have f1 := next_ok2 H n 1 sb 1 0 tk (psN D 0) [([.int .i64 (1 : Int)], .ptr 4 0), ([.int .i64 (2 : Int)], .ptr 11 0)] (by decide) hnb (by rw [psN_len]; omega) (Nat.zero_le _) (psN_ok hDk) rfl rfl (fun m h => by simp [V.bds, V.bd]; omega) (.map false (openE 12 0 k2) none) (.cells [.own 15 1 (tl.map nE), .gsl 14 (pl (psN E 0)).length 0 (pl (psN E 0)).length 1, .t (.int .i64 (k2 : Nat)), .mp 10]) (.fobs ((psN E 0).map Pl.cs)) (.gro (pl (psN E 0)).length (gE (pE 12) (pl (psN E 0)))) (.arr tl.length) (fun _ h => (by first | rfl | exact open_bd (by omega) _ _ | exact pls_bd _ _ | exact gE_bd (by omega) _ | (simp [AObj.bd, V.bds, V.bd]; omega) | (simp [AObj.bd, V.bds, V.bd]; done))) (fun _ h => (by first | rfl | exact open_bd (by omega) _ _ | exact pls_bd _ _ | exact gE_bd (by omega) _ | (simp [AObj.bd, V.bds, V.bd]; omega) | (simp [AObj.bd, V.bds, V.bd]; done))) (fun _ h => (by first | rfl | exact open_bd (by omega) _ _ | exact pls_bd _ _ | exact gE_bd (by omega) _ | (simp [AObj.bd, V.bds, V.bd]; omega) | (simp [AObj.bd, V.bds, V.bd]; done))) (fun _ h => (by first | rfl | exact open_bd (by omega) _ _ | exact pls_bd _ _ | exact gE_bd (by omega) _ | (simp [AObj.bd, V.bds, V.bd]; omega) | (simp [AObj.bd, V.bds, V.bd]; done))) (fun _ h => (by first | rfl | exact open_bd (by omega) _ _ | exact pls_bd _ _ | exact gE_bd (by omega) _ | (simp [AObj.bd, V.bds, V.bd]; omega) | (simp [AObj.bd, V.bds, V.bd]; done)))
    generalize hk : batch n 0 (psN D 0) = k at e1 f1
    have hk2 : k ≤ D.length ∧ 0 < k := by rw [← hk, batch, psN_len]; omega
    rw [reps_psN, psN_len, if_pos hDp, show decide (0 < D.length) = true by simp; omega, Nat.zero_add] at e1 f1
    generalize hb : (D.drop 0).take k = b at e1 f1
    have hbl : b.length = k := by rw [← hb]; simp; omega
    have hbk : ∀ v, v ∈ b → v.Ok := fun v hv => hDk v (by rw [← hb] at hv; exact List.mem_of_mem_drop (List.mem_of_mem_take hv))
    have e4 := same_ok H b b (by omega) (by omega) hbk hbk
    rw [sameL_refl] at e4
    have e5 := done_ok H n 1 s 1 k 0 tk (psN D 0) b [([.int .i64 (1 : Int)], .ptr 4 0)] (by omega) hbk (by omega) (by rw [psN_len]; omega) (by rw [psN_len]; omega) (psN_ok hDk) rfl rfl (fun m h => by simp [V.bds, V.bd]; omega)
    have f5 := done_ok2 H n 2 sb 1 k 0 tk (psN D 0) b [([.int .i64 (1 : Int)], .ptr 4 0), ([.int .i64 (2 : Int)], .ptr 11 0)] (by omega) hbk (by omega) (by rw [psN_len]; omega) (by rw [psN_len]; omega) (psN_ok hDk) rfl rfl (fun m h => by simp [V.bds, V.bd]; omega) (.map false (openE 12 0 k2) none) (.cells [.own 15 1 (tl.map nE), .gsl 14 (pl (psN E 0)).length 0 (pl (psN E 0)).length 1, .t (.int .i64 (k2 : Nat)), .mp 10]) (.fobs ((psN E 0).map Pl.cs)) (.gro (pl (psN E 0)).length (gE (pE 12) (pl (psN E 0)))) (.arr tl.length) (fun _ h => (by first | rfl | exact open_bd (by omega) _ _ | exact pls_bd _ _ | exact gE_bd (by omega) _ | (simp [AObj.bd, V.bds, V.bd]; omega) | (simp [AObj.bd, V.bds, V.bd]; done))) (fun _ h => (by first | rfl | exact open_bd (by omega) _ _ | exact pls_bd _ _ | exact gE_bd (by omega) _ | (simp [AObj.bd, V.bds, V.bd]; omega) | (simp [AObj.bd, V.bds, V.bd]; done))) (fun _ h => (by first | rfl | exact open_bd (by omega) _ _ | exact pls_bd _ _ | exact gE_bd (by omega) _ | (simp [AObj.bd, V.bds, V.bd]; omega) | (simp [AObj.bd, V.bds, V.bd]; done))) (fun _ h => (by first | rfl | exact open_bd (by omega) _ _ | exact pls_bd _ _ | exact gE_bd (by omega) _ | (simp [AObj.bd, V.bds, V.bd]; omega) | (simp [AObj.bd, V.bds, V.bd]; done))) (fun _ h => (by first | rfl | exact open_bd (by omega) _ _ | exact pls_bd _ _ | exact gE_bd (by omega) _ | (simp [AObj.bd, V.bds, V.bd]; omega) | (simp [AObj.bd, V.bds, V.bd]; done)))
    rw [hbl] at e5 f5
    have hqk : ∀ p, p ∈ setR (psN D 0) 0 b → p.Ok := setR_ok b _ 0 hbk (psN_ok hDk)
    have hql : (setR (psN D 0) 0 b).length = D.length := by rw [setR_len, psN_len]
    generalize setR (psN D 0) 0 b = q at e5 f5 hqk hql
    refine fR rfl ?_
    refine lM rfl rfl rfl ?_
    refine fM rfl ?_
    refine Run.condF rfl rfl (by simp; omega) ?_
    refine fR rfl ?_
    refine Mid.callR [2, 3, 18, 19, 20, 21, 22, 23, 24, 11, 12, 13, 14, 15, 16, 17] (f0) rfl rfl rfl rfl (by repeat' (first | exact (rfl : stoBd _ [] = true) | refine stoBd_cons (Nat.le_of_ble_eq_true rfl) ?_ ?_ | exact (by first | rfl | (refine open_bd ?_ _ _; exact Nat.le_of_ble_eq_true rfl) | exact pls_bd _ _ | (refine gE_bd ?_ _; exact Nat.le_of_ble_eq_true rfl)))) (by repeat' (first | exact trivial | refine And.intro ?_ ?_ | exact rfl | exact (congrArg some (ren_pls _ _)).symm | (refine (congrArg some (ren_open ?_ _ _ _)).symm; exact rfl) | (refine (congrArg some (AObj.ren_gE ?_ _ _)).symm; intro _; rfl))) rfl (v' := .tup [.t (.lst (b2.map Val.enc)), .t (.bool true)]) rfl (ob' := [(3, .cells [.t (.int .i64 n), .mp 2, .t (.int .i64 1), .t (.int .i64 sb)]), (19, .map false (openE 21 0 k2) none), (20, .cells [.own 24 1 (tl.map nE), .gsl 23 (pl (psN E 0)).length 0 (pl (psN E 0)).length 1, .t (.int .i64 (k2 : Nat)), .mp 19])]) (by repeat' (first | exact (rfl : renOb _ [] = []) | refine renOb_cons rfl ?_ ?_ | exact rfl | exact ren_pls _ _ | (refine ren_open ?_ _ _ _; exact rfl) | (refine AObj.ren_gE ?_ _ _; intro _; rfl))) rfl rfl ?_
    refine fM rfl ?_
    refine Mid.callR [0, 1, 4, 5, 6, 7, 8, 9, 10] (e1) rfl rfl rfl rfl (by repeat' (first | exact (rfl : stoBd _ [] = true) | refine stoBd_cons (Nat.le_of_ble_eq_true rfl) ?_ ?_ | exact (by first | rfl | (refine open_bd ?_ _ _; exact Nat.le_of_ble_eq_true rfl) | exact pls_bd _ _ | (refine gE_bd ?_ _; exact Nat.le_of_ble_eq_true rfl)))) (by repeat' (first | exact trivial | refine And.intro ?_ ?_ | exact rfl | exact (congrArg some (ren_pls _ _)).symm | (refine (congrArg some (ren_open ?_ _ _ _)).symm; exact rfl) | (refine (congrArg some (AObj.ren_gE ?_ _ _)).symm; intro _; rfl))) rfl (v' := .tup [.t (.lst (b.map Val.enc)), .t (.bool true)]) rfl (ob' := [(1, .cells [.t (.int .i64 n), .mp 0, .t (.int .i64 1), .t (.int .i64 s)]), (5, .map false (openE 7 0 k) none), (6, .cells [.own 10 1 (tk.map nE), .gsl 9 (pl (psN D 0)).length 0 (pl (psN D 0)).length 1, .t (.int .i64 (k : Nat)), .mp 5])]) (by repeat' (first | exact (rfl : renOb _ [] = []) | refine renOb_cons rfl ?_ ?_ | exact rfl | exact ren_pls _ _ | (refine ren_open ?_ _ _ _; exact rfl) | (refine AObj.ren_gE ?_ _ _; intro _; rfl))) rfl rfl ?_
    refine fM rfl ?_
    refine Mid.callR [2, 3, 11, 12, 13, 14, 15, 16, 17, 18, 19, 20, 21, 22, 23, 24] (f1) rfl rfl rfl rfl (by repeat' (first | exact (rfl : stoBd _ [] = true) | refine stoBd_cons (Nat.le_of_ble_eq_true rfl) ?_ ?_ | exact (by first | rfl | (refine open_bd ?_ _ _; exact Nat.le_of_ble_eq_true rfl) | exact pls_bd _ _ | (refine gE_bd ?_ _; exact Nat.le_of_ble_eq_true rfl)))) (by repeat' (first | exact trivial | refine And.intro ?_ ?_ | exact rfl | exact (congrArg some (ren_pls _ _)).symm | (refine (congrArg some (ren_open ?_ _ _ _)).symm; exact rfl) | (refine (congrArg some (AObj.ren_gE ?_ _ _)).symm; intro _; rfl))) rfl (v' := .tup [.t (.lst (b.map Val.enc)), .t (.bool true)]) rfl (ob' := [(3, .cells [.t (.int .i64 n), .mp 2, .t (.int .i64 2), .t (.int .i64 sb)]), (12, .map false (openE 14 0 k) none), (13, .cells [.own 17 1 (tk.map nE), .gsl 16 (pl (psN D 0)).length 0 (pl (psN D 0)).length 1, .t (.int .i64 (k : Nat)), .mp 12])]) (by repeat' (first | exact (rfl : renOb _ [] = []) | refine renOb_cons rfl ?_ ?_ | exact rfl | exact ren_pls _ _ | (refine ren_open ?_ _ _ _; exact rfl) | (refine AObj.ren_gE ?_ _ _; intro _; rfl))) rfl rfl ?_
    refine fM rfl ?_
    refine caG rfl rfl (fun hg => ⟨_, rfl, e4, rfl⟩) rfl rfl ?_
    refine fM rfl ?_
    refine Mid.ungd rfl rfl rfl ?_
    refine Mid.callR [0, 1, 4, 5, 6, 7, 8, 9, 10] (e5) rfl rfl rfl rfl (by repeat' (first | exact (rfl : stoBd _ [] = true) | refine stoBd_cons (Nat.le_of_ble_eq_true rfl) ?_ ?_ | exact (by first | rfl | (refine open_bd ?_ _ _; exact Nat.le_of_ble_eq_true rfl) | exact pls_bd _ _ | (refine gE_bd ?_ _; exact Nat.le_of_ble_eq_true rfl)))) (by repeat' (first | exact trivial | refine And.intro ?_ ?_ | exact rfl | exact (congrArg some (ren_pls _ _)).symm | (refine (congrArg some (ren_open ?_ _ _ _)).symm; exact rfl) | (refine (congrArg some (AObj.ren_gE ?_ _ _)).symm; intro _; rfl))) rfl (v' := .t (.int .i64 0)) rfl (ob' := [(5, .map false [] none), (6, .cells [.own 10 1 (tk.map nE), .gsl 9 (pl q).length 0 (pl q).length 1, .t (.int .i64 (k : Nat)), .mp 5]), (7, .fobs (q.map Pl.cs)), (9, .gro (pl q).length (gE (pE 7) (pl q)))]) (by repeat' (first | exact (rfl : renOb _ [] = []) | refine renOb_cons rfl ?_ ?_ | exact rfl | exact ren_pls _ _ | (refine ren_open ?_ _ _ _; exact rfl) | (refine AObj.ren_gE ?_ _ _; intro _; rfl))) rfl rfl ?_
    refine fM rfl ?_
    refine Mid.ungd rfl rfl rfl ?_
    refine Mid.callR [2, 3, 11, 12, 13, 14, 15, 16, 17, 18, 19, 20, 21, 22, 23, 24] (f5) rfl rfl rfl rfl (by repeat' (first | exact (rfl : stoBd _ [] = true) | refine stoBd_cons (Nat.le_of_ble_eq_true rfl) ?_ ?_ | exact (by first | rfl | (refine open_bd ?_ _ _; exact Nat.le_of_ble_eq_true rfl) | exact pls_bd _ _ | (refine gE_bd ?_ _; exact Nat.le_of_ble_eq_true rfl)))) (by repeat' (first | exact trivial | refine And.intro ?_ ?_ | exact rfl | exact (congrArg some (ren_pls _ _)).symm | (refine (congrArg some (ren_open ?_ _ _ _)).symm; exact rfl) | (refine (congrArg some (AObj.ren_gE ?_ _ _)).symm; intro _; rfl))) rfl (v' := .t (.int .i64 0)) rfl (ob' := [(12, .map false [] none), (13, .cells [.own 17 1 (tk.map nE), .gsl 16 (pl q).length 0 (pl q).length 1, .t (.int .i64 (k : Nat)), .mp 12]), (14, .fobs (q.map Pl.cs)), (16, .gro (pl q).length (gE (pE 14) (pl q)))]) (by repeat' (first | exact (rfl : renOb _ [] = []) | refine renOb_cons rfl ?_ ?_ | exact rfl | exact ren_pls _ _ | (refine ren_open ?_ _ _ _; exact rfl) | (refine AObj.ren_gE ?_ _ _; intro _; rfl))) rfl rfl ?_
    refine fM rfl ?_
    refine Run.condF rfl rfl rfl ?_
    refine fR rfl ?_
    refine rList l (fun i (_ : Unit) => { env := [(1, .t (.lst (l.map Val.enc))), (7, .ptr 1 0), (9, .ptr 3 0), (16, .t (.int .i64 (i : Nat)))], s := ⟨[(0, .map false [([.int .i64 1], .ptr 6 0)] none), (1, .cells [.t (.int .i64 n), .mp 0, .t (.int .i64 1), .t (.int .i64 s)]), (5, .map false [] none), (6, .cells [.own 10 1 (tk.map nE), .gsl 9 (pl q).length 0 (pl q).length 1, .t (.int .i64 (k : Nat)), .mp 5]), (7, .fobs (q.map Pl.cs)), (9, .gro (pl q).length (gE (pE 7) (pl q))), (10, .arr tk.length), (2, .map false [([.int .i64 1], .ptr 13 0), ([.int .i64 2], .ptr 20 0)] none), (3, .cells [.t (.int .i64 n), .mp 2, .t (.int .i64 2), .t (.int .i64 sb)]), (12, .map false [] none), (13, .cells [.own 17 1 (tk.map nE), .gsl 16 (pl q).length 0 (pl q).length 1, .t (.int .i64 (k : Nat)), .mp 12]), (14, .fobs (q.map Pl.cs)), (16, .gro (pl q).length (gE (pE 14) (pl q))), (17, .arr tk.length), (19, .map false (openE 21 0 k2) none), (20, .cells [.own 24 1 (tl.map nE), .gsl 23 (pl (psN E 0)).length 0 (pl (psN E 0)).length 1, .t (.int .i64 (k2 : Nat)), .mp 19]), (21, .fobs ((psN E 0).map Pl.cs)), (23, .gro (pl (psN E 0)).length (gE (pE 21) (pl (psN E 0)))), (24, .arr tl.length)], 25⟩ }) (fun r i _ => True) 25 () rfl trivial rfl rfl rfl ?_ ?_ (he := (by repeat' (first | exact trivial | exact LeX.t | exact LeX.top | exact LeX.nilOwn (Nat.le_of_ble_eq_true rfl) (Nat.le_of_ble_eq_true rfl) | exact LeX.ownT | exact LeX.nilT | exact LeX.same rfl | exact LeX.tEq (by simp) | exact LeX.ownEq (by simp) (Nat.le_of_ble_eq_true rfl) | exact LeX.tEq (by congr 1 <;> omega) | exact Or.inr ⟨Nat.le_of_ble_eq_true rfl, Nat.le_of_ble_eq_true rfl, rfl⟩ | refine Or.inl ⟨Nat.le_of_ble_eq_true rfl, _, rfl, ?_⟩ | refine LeO.cells ?_ | exact LeO.arr rfl | exact LeO.arr (by simp) | exact LeO.mE (by first | rfl | simp) (by first | exact Or.inl rfl | exact Or.inr rfl) | exact LeO.cE (by first | rfl | simp) | exact LeXs.cE (by first | rfl | simp) | refine LeO.map (by first | rfl | simp) ?_ (by first | exact Or.inl rfl | exact Or.inr rfl) | exact LeO.iter (by first | rfl | simp) (Nat.le_of_ble_eq_true rfl) | refine LeXs.cons ?_ ?_ | exact LeXs.nil | refine And.intro ?_ ?_))) (hs := (by repeat' (first | exact trivial | refine And.intro ?_ ?_ | exact Or.inl ⟨(Nat.le_of_ble_eq_true rfl), _, rfl, LeO.arr (by simp)⟩ | exact Or.inr ⟨Nat.le_of_ble_eq_true rfl, Nat.le_of_ble_eq_true rfl, rfl⟩ | exact Or.inl ⟨(Nat.le_of_ble_eq_true rfl), _, rfl, AObj.leSame (by first | rfl | (refine open_bd ?_ _ _; exact Nat.le_of_ble_eq_true rfl) | exact pls_bd _ _ | (refine gE_bd ?_ _; exact Nat.le_of_ble_eq_true rfl))⟩)))
    · rintro _ _
      refine fR rfl ?_
      refine lM rfl rfl rfl ?_
      refine fM rfl ?_
      refine Run.condF rfl rfl (by simp) ?_
      refine fR rfl ?_
      refine Mid.call (knows_ok H) rfl rfl rfl rfl ?_
      refine fM rfl ?_
      refine Run.fin rfl (EndOk.go ?_); exact .t rfl
    · rintro i v r _ h1 hi hd _ ih2
      obtain ⟨a, x, ha, hx, hxv⟩ := hT.at_ i v h1
      have halt := (List.getElem?_eq_some_iff.1 hx).1
      obtain ⟨p, hp⟩ : ∃ p, q[a]? = some p := ⟨_, List.getElem?_eq_getElem (by omega)⟩
      have hpk := hqk p (List.mem_of_getElem? hp)
      have e2 := take_ok H n 1 s 1 k tk q [] [([.int .i64 (1 : Int)], .ptr 4 0)] i a p ha hp hpk (by omega) (by omega) rfl rfl (fun m h => by simp [V.bds, V.bd]; omega) (fun _ _ => rfl)
      have f2 := take_ok2 H n 2 sb 1 k tk q [] [([.int .i64 (1 : Int)], .ptr 4 0), ([.int .i64 (2 : Int)], .ptr 11 0)] i a p ha hp hpk (by omega) (by omega) rfl rfl (fun m h => by simp [V.bds, V.bd]; omega) (fun _ _ => rfl) (.map false (openE 12 0 k2) none) (.cells [.own 15 1 (tl.map nE), .gsl 14 (pl (psN E 0)).length 0 (pl (psN E 0)).length 1, .t (.int .i64 (k2 : Nat)), .mp 10]) (.fobs ((psN E 0).map Pl.cs)) (.gro (pl (psN E 0)).length (gE (pE 12) (pl (psN E 0)))) (.arr tl.length) (fun _ h => (by first | rfl | exact open_bd (by omega) _ _ | exact pls_bd _ _ | exact gE_bd (by omega) _ | (simp [AObj.bd, V.bds, V.bd]; omega) | (simp [AObj.bd, V.bds, V.bd]; done))) (fun _ h => (by first | rfl | exact open_bd (by omega) _ _ | exact pls_bd _ _ | exact gE_bd (by omega) _ | (simp [AObj.bd, V.bds, V.bd]; omega) | (simp [AObj.bd, V.bds, V.bd]; done))) (fun _ h => (by first | rfl | exact open_bd (by omega) _ _ | exact pls_bd _ _ | exact gE_bd (by omega) _ | (simp [AObj.bd, V.bds, V.bd]; omega) | (simp [AObj.bd, V.bds, V.bd]; done))) (fun _ h => (by first | rfl | exact open_bd (by omega) _ _ | exact pls_bd _ _ | exact gE_bd (by omega) _ | (simp [AObj.bd, V.bds, V.bd]; omega) | (simp [AObj.bd, V.bds, V.bd]; done))) (fun _ h => (by first | rfl | exact open_bd (by omega) _ _ | exact pls_bd _ _ | exact gE_bd (by omega) _ | (simp [AObj.bd, V.bds, V.bd]; omega) | (simp [AObj.bd, V.bds, V.bd]; done)))
      have hzk : (if p.ld then p.res else Val.zero).Ok := by split; exact hpk.s; exact Val.zero_ok
      generalize (if p.ld then p.res else Val.zero) = z at e2 f2 hzk
      have e3 := rsame_ok H z z hzk hzk
      rw [sameV_refl] at e3
      generalize p.ld = g at e2 f2
      refine fR rfl ?_
      refine lM rfl rfl rfl ?_
      refine fM rfl ?_
      refine Run.condT rfl rfl (by simp; omega) ?_
      refine fR rfl ?_
      refine Mid.callR [0, 1, 4, 5, 6, 7, 8, 9, 10] (e2) rfl rfl rfl rfl (by repeat' (first | exact (rfl : stoBd _ [] = true) | refine stoBd_cons (Nat.le_of_ble_eq_true rfl) ?_ ?_ | exact (by first | rfl | (refine open_bd ?_ _ _; exact Nat.le_of_ble_eq_true rfl) | exact pls_bd _ _ | (refine gE_bd ?_ _; exact Nat.le_of_ble_eq_true rfl)))) (by repeat' (first | exact trivial | refine And.intro ?_ ?_ | exact rfl | exact (congrArg some (ren_pls _ _)).symm | (refine (congrArg some (ren_open ?_ _ _ _)).symm; exact rfl) | (refine (congrArg some (AObj.ren_gE ?_ _ _)).symm; intro _; rfl))) rfl (v' := .tup [z.v, .t (.bool g)]) rfl (ob' := []) (by repeat' (first | exact (rfl : renOb _ [] = []) | refine renOb_cons rfl ?_ ?_ | exact rfl | exact ren_pls _ _ | (refine ren_open ?_ _ _ _; exact rfl) | (refine AObj.ren_gE ?_ _ _; intro _; rfl))) rfl rfl ?_
      refine fM rfl ?_
      refine Mid.callR [2, 3, 11, 12, 13, 14, 15, 16, 17, 18, 19, 20, 21, 22, 23, 24] (f2) rfl rfl rfl rfl (by repeat' (first | exact (rfl : stoBd _ [] = true) | refine stoBd_cons (Nat.le_of_ble_eq_true rfl) ?_ ?_ | exact (by first | rfl | (refine open_bd ?_ _ _; exact Nat.le_of_ble_eq_true rfl) | exact pls_bd _ _ | (refine gE_bd ?_ _; exact Nat.le_of_ble_eq_true rfl)))) (by repeat' (first | exact trivial | refine And.intro ?_ ?_ | exact rfl | exact (congrArg some (ren_pls _ _)).symm | (refine (congrArg some (ren_open ?_ _ _ _)).symm; exact rfl) | (refine (congrArg some (AObj.ren_gE ?_ _ _)).symm; intro _; rfl))) rfl (v' := .tup [z.v, .t (.bool g)]) rfl (ob' := []) (by repeat' (first | exact (rfl : renOb _ [] = []) | refine renOb_cons rfl ?_ ?_ | exact rfl | exact ren_pls _ _ | (refine ren_open ?_ _ _ _; exact rfl) | (refine AObj.ren_gE ?_ _ _; intro _; rfl))) rfl rfl ?_
      refine fM rfl ?_
      cases g with
      | false =>
        skip
        refine caG rfl rfl (fun hg => ⟨_, rfl, e3, rfl⟩) rfl rfl ?_
        refine fM rfl ?_
        refine Run.condF rfl rfl rfl ?_
        refine fR rfl ?_
        refine aL rfl rfl rfl rfl rfl ?_
        refine fM rfl ?_
        exact rWeak 25 rfl (ih2 () trivial) rfl rfl rfl (he := (by repeat' (first | exact trivial | exact LeX.t | exact LeX.top | exact LeX.nilOwn (Nat.le_of_ble_eq_true rfl) (Nat.le_of_ble_eq_true rfl) | exact LeX.ownT | exact LeX.nilT | exact LeX.same rfl | exact LeX.tEq (by simp) | exact LeX.ownEq (by simp) (Nat.le_of_ble_eq_true rfl) | exact LeX.tEq (by congr 1 <;> omega) | exact Or.inr ⟨Nat.le_of_ble_eq_true rfl, Nat.le_of_ble_eq_true rfl, rfl⟩ | refine Or.inl ⟨Nat.le_of_ble_eq_true rfl, _, rfl, ?_⟩ | refine LeO.cells ?_ | exact LeO.arr rfl | exact LeO.arr (by simp) | exact LeO.mE (by first | rfl | simp) (by first | exact Or.inl rfl | exact Or.inr rfl) | exact LeO.cE (by first | rfl | simp) | exact LeXs.cE (by first | rfl | simp) | refine LeO.map (by first | rfl | simp) ?_ (by first | exact Or.inl rfl | exact Or.inr rfl) | exact LeO.iter (by first | rfl | simp) (Nat.le_of_ble_eq_true rfl) | refine LeXs.cons ?_ ?_ | exact LeXs.nil | refine And.intro ?_ ?_))) (hs := (by repeat' (first | exact trivial | refine And.intro ?_ ?_ | exact Or.inl ⟨(Nat.le_of_ble_eq_true rfl), _, rfl, LeO.arr (by simp)⟩ | exact Or.inr ⟨Nat.le_of_ble_eq_true rfl, Nat.le_of_ble_eq_true rfl, rfl⟩ | exact Or.inl ⟨(Nat.le_of_ble_eq_true rfl), _, rfl, AObj.leSame (by first | rfl | (refine open_bd ?_ _ _; exact Nat.le_of_ble_eq_true rfl) | exact pls_bd _ _ | (refine gE_bd ?_ _; exact Nat.le_of_ble_eq_true rfl))⟩)))
      | true =>
        skip
        refine caG rfl rfl (fun hg => ⟨_, rfl, e3, rfl⟩) rfl rfl ?_
        refine fM rfl ?_
        refine Run.condF rfl rfl rfl ?_
        refine fR rfl ?_
        refine aL rfl rfl rfl rfl rfl ?_
        refine fM rfl ?_
        exact rWeak 25 rfl (ih2 () trivial) rfl rfl rfl (he := (by repeat' (first | exact trivial | exact LeX.t | exact LeX.top | exact LeX.nilOwn (Nat.le_of_ble_eq_true rfl) (Nat.le_of_ble_eq_true rfl) | exact LeX.ownT | exact LeX.nilT | exact LeX.same rfl | exact LeX.tEq (by simp) | exact LeX.ownEq (by simp) (Nat.le_of_ble_eq_true rfl) | exact LeX.tEq (by congr 1 <;> omega) | exact Or.inr ⟨Nat.le_of_ble_eq_true rfl, Nat.le_of_ble_eq_true rfl, rfl⟩ | refine Or.inl ⟨Nat.le_of_ble_eq_true rfl, _, rfl, ?_⟩ | refine LeO.cells ?_ | exact LeO.arr rfl | exact LeO.arr (by simp) | exact LeO.mE (by first | rfl | simp) (by first | exact Or.inl rfl | exact Or.inr rfl) | exact LeO.cE (by first | rfl | simp) | exact LeXs.cE (by first | rfl | simp) | refine LeO.map (by first | rfl | simp) ?_ (by first | exact Or.inl rfl | exact Or.inr rfl) | exact LeO.iter (by first | rfl | simp) (Nat.le_of_ble_eq_true rfl) | refine LeXs.cons ?_ ?_ | exact LeXs.nil | refine And.intro ?_ ?_))) (hs := (by repeat' (first | exact trivial | refine And.intro ?_ ?_ | exact Or.inl ⟨(Nat.le_of_ble_eq_true rfl), _, rfl, LeO.arr (by simp)⟩ | exact Or.inr ⟨Nat.le_of_ble_eq_true rfl, Nat.le_of_ble_eq_true rfl, rfl⟩ | exact Or.inl ⟨(Nat.le_of_ble_eq_true rfl), _, rfl, AObj.leSame (by first | rfl | (refine open_bd ?_ _ _; exact Nat.le_of_ble_eq_true rfl) | exact pls_bd _ _ | (refine gE_bd ?_ _; exact Nat.le_of_ble_eq_true rfl))⟩)))
  · rintro i x r ⟨⟨D, tk, s⟩, ⟨E, tl, sb⟩⟩ h1 hi hd hinv ih
    have hxk := ho x (List.mem_of_getElem? h1)
    have htk1 : l.take (i + 1) = l.take i ++ [x] := by rw [List.take_add_one, h1]; rfl
    cases i with
    | zero =>
      dsimp only
      obtain ⟨y, hy⟩ : ∃ y, o[0]? = some y := ⟨_, List.getElem?_eq_getElem hop⟩
      have hyk := hoo y (List.mem_of_getElem? hy)
      have htk2 : o.take (0 + 1) = o.take 0 ++ [y] := by rw [List.take_add_one, hy]; rfl
      refine fR rfl ?_
      refine lM rfl rfl rfl ?_
      refine fM rfl ?_
      refine Run.condT rfl rfl (by simp; omega) ?_
      refine fR rfl ?_
      refine Mid.elemMapC (Val.enc_eq x) rfl rfl rfl h1 rfl rfl ?_
      refine fM rfl ?_
      refine Mid.callR [0, 1] (add_first H n 0 0 1 (by decide) x hxk (some (0, []))) rfl rfl rfl rfl (by repeat' (first | exact (rfl : stoBd _ [] = true) | refine stoBd_cons (Nat.le_of_ble_eq_true rfl) ?_ ?_ | exact (by first | rfl | (refine open_bd ?_ _ _; exact Nat.le_of_ble_eq_true rfl) | exact pls_bd _ _ | (refine gE_bd ?_ _; exact Nat.le_of_ble_eq_true rfl)))) (by repeat' (first | exact trivial | refine And.intro ?_ ?_ | exact rfl | exact (congrArg some (ren_pls _ _)).symm | (refine (congrArg some (ren_open ?_ _ _ _)).symm; exact rfl) | (refine (congrArg some (AObj.ren_gE ?_ _ _)).symm; intro _; rfl))) rfl (v' := .tup [.t (.int .i64 0), .t (.int .i64 0)]) rfl (ob' := [(0, .map false [([.int .i64 1], .ptr 6 0)] none), (5, .map false [] none), (6, .cells [.own 10 1 ([(0 : Int)].map nE), .gsl 9 (pl (psN [x] 0)).length 0 (pl (psN [x] 0)).length 1, .t (.int .i64 0), .mp 5]), (7, .fobs ((psN [x] 0).map Pl.cs)), (9, .gro (pl (psN [x] 0)).length (gE (pE 7) (pl (psN [x] 0)))), (10, .arr [(0 : Int)].length)]) (by repeat' (first | exact (rfl : renOb _ [] = []) | refine renOb_cons rfl ?_ ?_ | exact rfl | exact ren_pls _ _ | (refine ren_open ?_ _ _ _; exact rfl) | (refine AObj.ren_gE ?_ _ _; intro _; rfl))) rfl rfl ?_
      refine fM rfl ?_
      refine Mid.elemMapC (Val.enc_eq x) rfl rfl rfl h1 rfl rfl ?_
      refine fM rfl ?_
      refine Mid.callR [2, 3] (add_first H n 0 0 1 (by decide) x hxk (some (0, []))) rfl rfl rfl rfl (by repeat' (first | exact (rfl : stoBd _ [] = true) | refine stoBd_cons (Nat.le_of_ble_eq_true rfl) ?_ ?_ | exact (by first | rfl | (refine open_bd ?_ _ _; exact Nat.le_of_ble_eq_true rfl) | exact pls_bd _ _ | (refine gE_bd ?_ _; exact Nat.le_of_ble_eq_true rfl)))) (by repeat' (first | exact trivial | refine And.intro ?_ ?_ | exact rfl | exact (congrArg some (ren_pls _ _)).symm | (refine (congrArg some (ren_open ?_ _ _ _)).symm; exact rfl) | (refine (congrArg some (AObj.ren_gE ?_ _ _)).symm; intro _; rfl))) rfl (v' := .tup [.t (.int .i64 0), .t (.int .i64 0)]) rfl (ob' := [(2, .map false [([.int .i64 1], .ptr 13 0)] none), (12, .map false [] none), (13, .cells [.own 17 1 ([(0 : Int)].map nE), .gsl 16 (pl (psN [x] 0)).length 0 (pl (psN [x] 0)).length 1, .t (.int .i64 0), .mp 12]), (14, .fobs ((psN [x] 0).map Pl.cs)), (16, .gro (pl (psN [x] 0)).length (gE (pE 14) (pl (psN [x] 0)))), (17, .arr [(0 : Int)].length)]) (by repeat' (first | exact (rfl : renOb _ [] = []) | refine renOb_cons rfl ?_ ?_ | exact rfl | exact ren_pls _ _ | (refine ren_open ?_ _ _ _; exact rfl) | (refine AObj.ren_gE ?_ _ _; intro _; rfl))) rfl rfl ?_
      refine fM rfl ?_
      refine lM rfl rfl rfl ?_
      refine fM rfl ?_
      refine Run.condT rfl rfl (by simp; omega) ?_
      refine fR rfl ?_
      refine Mid.elemMapC (Val.enc_eq y) rfl rfl rfl hy rfl rfl ?_
      refine fM rfl ?_
      refine Mid.callR [2, 3, 11, 12, 13, 14, 15, 16, 17] (add_second H n 0 0 2 (by decide) y hyk [([.int .i64 (1 : Int)], .ptr 4 0)] rfl rfl (fun m h => by simp [V.bds, V.bd]; omega) (.map false [] none) (.cells [.own 8 1 ([(0 : Int)].map nE), .gsl 7 (pl (psN [x] 0)).length 0 (pl (psN [x] 0)).length 1, .t (.int .i64 0), .mp 3]) (.fobs ((psN [x] 0).map Pl.cs)) (.gro (pl (psN [x] 0)).length (gE (pE 5) (pl (psN [x] 0)))) (.arr [(0 : Int)].length) (fun _ h => (by first | rfl | exact open_bd (by omega) _ _ | exact pls_bd _ _ | exact gE_bd (by omega) _ | (simp [AObj.bd, V.bds, V.bd]; omega) | (simp [AObj.bd, V.bds, V.bd]; done))) (fun _ h => (by first | rfl | exact open_bd (by omega) _ _ | exact pls_bd _ _ | exact gE_bd (by omega) _ | (simp [AObj.bd, V.bds, V.bd]; omega) | (simp [AObj.bd, V.bds, V.bd]; done))) (fun _ h => (by first | rfl | exact open_bd (by omega) _ _ | exact pls_bd _ _ | exact gE_bd (by omega) _ | (simp [AObj.bd, V.bds, V.bd]; omega) | (simp [AObj.bd, V.bds, V.bd]; done))) (fun _ h => (by first | rfl | exact open_bd (by omega) _ _ | exact pls_bd _ _ | exact gE_bd (by omega) _ | (simp [AObj.bd, V.bds, V.bd]; omega) | (simp [AObj.bd, V.bds, V.bd]; done))) (fun _ h => (by first | rfl | exact open_bd (by omega) _ _ | exact pls_bd _ _ | exact gE_bd (by omega) _ | (simp [AObj.bd, V.bds, V.bd]; omega) | (simp [AObj.bd, V.bds, V.bd]; done)))) rfl rfl rfl rfl (by repeat' (first | exact (rfl : stoBd _ [] = true) | refine stoBd_cons (Nat.le_of_ble_eq_true rfl) ?_ ?_ | exact (by first | rfl | (refine open_bd ?_ _ _; exact Nat.le_of_ble_eq_true rfl) | exact pls_bd _ _ | (refine gE_bd ?_ _; exact Nat.le_of_ble_eq_true rfl)))) (by repeat' (first | exact trivial | refine And.intro ?_ ?_ | exact rfl | exact (congrArg some (ren_pls _ _)).symm | (refine (congrArg some (ren_open ?_ _ _ _)).symm; exact rfl) | (refine (congrArg some (AObj.ren_gE ?_ _ _)).symm; intro _; rfl))) rfl (v' := .tup [.t (.int .i64 0), .t (.int .i64 0)]) rfl (ob' := [(2, .map false [([.int .i64 1], .ptr 13 0), ([.int .i64 2], .ptr 20 0)] none), (19, .map false [] none), (20, .cells [.own 24 1 ([(0 : Int)].map nE), .gsl 23 (pl (psN [y] 0)).length 0 (pl (psN [y] 0)).length 1, .t (.int .i64 0), .mp 19]), (21, .fobs ((psN [y] 0).map Pl.cs)), (23, .gro (pl (psN [y] 0)).length (gE (pE 21) (pl (psN [y] 0)))), (24, .arr [(0 : Int)].length)]) (by repeat' (first | exact (rfl : renOb _ [] = []) | refine renOb_cons rfl ?_ ?_ | exact rfl | exact ren_pls _ _ | (refine ren_open ?_ _ _ _; exact rfl) | (refine AObj.ren_gE ?_ _ _; intro _; rfl))) rfl rfl ?_
      refine fM rfl ?_
      refine a64 rfl rfl rfl ?_
      refine fM rfl ?_
      exact rWeak 25 rfl (ih (([x], [0], 0), ([y], [0], 0)) (fun _ => ⟨by rw [htk1]; simpa using Tk.one x, 0, by rw [htk2]; simpa using Tk.one y, rfl⟩)) rfl rfl rfl (he := (by repeat' (first | exact trivial | exact LeX.t | exact LeX.top | exact LeX.nilOwn (Nat.le_of_ble_eq_true rfl) (Nat.le_of_ble_eq_true rfl) | exact LeX.ownT | exact LeX.nilT | exact LeX.same rfl | exact LeX.tEq (by simp) | exact LeX.ownEq (by simp) (Nat.le_of_ble_eq_true rfl) | exact LeX.tEq (by congr 1 <;> omega) | exact Or.inr ⟨Nat.le_of_ble_eq_true rfl, Nat.le_of_ble_eq_true rfl, rfl⟩ | refine Or.inl ⟨Nat.le_of_ble_eq_true rfl, _, rfl, ?_⟩ | refine LeO.cells ?_ | exact LeO.arr rfl | exact LeO.arr (by simp) | exact LeO.mE (by first | rfl | simp) (by first | exact Or.inl rfl | exact Or.inr rfl) | exact LeO.cE (by first | rfl | simp) | exact LeXs.cE (by first | rfl | simp) | refine LeO.map (by first | rfl | simp) ?_ (by first | exact Or.inl rfl | exact Or.inr rfl) | exact LeO.iter (by first | rfl | simp) (Nat.le_of_ble_eq_true rfl) | refine LeXs.cons ?_ ?_ | exact LeXs.nil | refine And.intro ?_ ?_))) (hs := (by repeat' (first | exact trivial | refine And.intro ?_ ?_ | exact Or.inl ⟨(Nat.le_of_ble_eq_true rfl), _, rfl, LeO.arr (by simp)⟩ | exact Or.inr ⟨Nat.le_of_ble_eq_true rfl, Nat.le_of_ble_eq_true rfl, rfl⟩ | exact Or.inl ⟨(Nat.le_of_ble_eq_true rfl), _, rfl, AObj.leSame (by first | rfl | (refine open_bd ?_ _ _; exact Nat.le_of_ble_eq_true rfl) | exact pls_bd _ _ | (refine gE_bd ?_ _; exact Nat.le_of_ble_eq_true rfl))⟩)))
    | succ i =>
      dsimp only
      obtain ⟨hT, s2, hU, hsb⟩ := hinv (by simp)
      have hDk : ∀ v, v ∈ D → v.Ok := fun v hv => ho v (List.mem_of_mem_take (hT.sub v hv))
      have hEk : ∀ v, v ∈ E → v.Ok := fun v hv => hoo v (List.mem_of_mem_take (hU.sub v hv))
      have hsv := hT.sv
      have hle := hT.le
      have htl := hT.len
      rw [List.length_take, Nat.min_eq_left (by omega)] at hsv hle htl
      dsimp only at hsv hle htl hsb
      have hsv2 := hU.sv
      have hle2 := hU.le
      have htl2 := hU.len
      dsimp only at hsv2 hle2 htl2
      have hul : (o.take (i + 1)).length ≤ 100 := by simp; omega
      have e1 := add_ok H n 0 s 1 0 tk (psN D 0) [] [([.int .i64 (1 : Int)], .ptr 4 0)] (by decide) x hxk (by omega) (by omega) (by rw [psN_len]; omega) (psN_ok hDk) rfl rfl (fun m h => by simp [V.bds, V.bd]; omega) (fun _ _ => rfl)
      have f1 := add_ok2 H n 0 sb 1 0 tk (psN D 0) [] [([.int .i64 (1 : Int)], .ptr 4 0), ([.int .i64 (2 : Int)], .ptr 11 0)] (by decide) x hxk (by omega) (by omega) (by rw [psN_len]; omega) (psN_ok hDk) rfl rfl (fun m h => by simp [V.bds, V.bd]; omega) (fun _ _ => rfl) (.map false [] none) (.cells [.own 15 1 (tl.map nE), .gsl 14 (pl (psN E 0)).length 0 (pl (psN E 0)).length 1, .t (.int .i64 0), .mp 10]) (.fobs ((psN E 0).map Pl.cs)) (.gro (pl (psN E 0)).length (gE (pE 12) (pl (psN E 0)))) (.arr tl.length) (fun _ h => (by first | rfl | exact open_bd (by omega) _ _ | exact pls_bd _ _ | exact gE_bd (by omega) _ | (simp [AObj.bd, V.bds, V.bd]; omega) | (simp [AObj.bd, V.bds, V.bd]; done))) (fun _ h => (by first | rfl | exact open_bd (by omega) _ _ | exact pls_bd _ _ | exact gE_bd (by omega) _ | (simp [AObj.bd, V.bds, V.bd]; omega) | (simp [AObj.bd, V.bds, V.bd]; done))) (fun _ h => (by first | rfl | exact open_bd (by omega) _ _ | exact pls_bd _ _ | exact gE_bd (by omega) _ | (simp [AObj.bd, V.bds, V.bd]; omega) | (simp [AObj.bd, V.bds, V.bd]; done))) (fun _ h => (by first | rfl | exact open_bd (by omega) _ _ | exact pls_bd _ _ | exact gE_bd (by omega) _ | (simp [AObj.bd, V.bds, V.bd]; omega) | (simp [AObj.bd, V.bds, V.bd]; done))) (fun _ h => (by first | rfl | exact open_bd (by omega) _ _ | exact pls_bd _ _ | exact gE_bd (by omega) _ | (simp [AObj.bd, V.bds, V.bd]; omega) | (simp [AObj.bd, V.bds, V.bd]; done)))
      rw [addPs_psN] at e1 f1
      have hP := hT.push x
      rw [← htk1] at hP
      have ha2 : 0 ≤ addS (psN D 0) x ∧ addS (psN D 0) x ≤ 1 := by unfold addS; split <;> omega
      refine fR rfl ?_
      refine lM rfl rfl rfl ?_
      refine fM rfl ?_
      refine Run.condT rfl rfl (by simp; omega) ?_
      refine fR rfl ?_
      refine Mid.elemMapC (Val.enc_eq x) rfl rfl rfl h1 rfl rfl ?_
      refine fM rfl ?_
      generalize (addAt (psN D 0) x : Int) = at_ at e1 f1 hP
      generalize addS (psN D 0) x = d1 at e1 f1 hP ha2
      generalize ht2 : s + d1 = t2 at e1 hP
      generalize hsc : sb + d1 = sc at f1
      refine Mid.callR [0, 1, 4, 5, 6, 7, 8, 9, 10] (e1) rfl rfl rfl rfl (by repeat' (first | exact (rfl : stoBd _ [] = true) | refine stoBd_cons (Nat.le_of_ble_eq_true rfl) ?_ ?_ | exact (by first | rfl | (refine open_bd ?_ _ _; exact Nat.le_of_ble_eq_true rfl) | exact pls_bd _ _ | (refine gE_bd ?_ _; exact Nat.le_of_ble_eq_true rfl)))) (by repeat' (first | exact trivial | refine And.intro ?_ ?_ | exact rfl | exact (congrArg some (ren_pls _ _)).symm | (refine (congrArg some (ren_open ?_ _ _ _)).symm; exact rfl) | (refine (congrArg some (AObj.ren_gE ?_ _ _)).symm; intro _; rfl))) rfl (v' := .tup [.t (.int .i64 tk.length), .t (.int .i64 0)]) rfl (ob' := [(1, .cells [.t (.int .i64 n), .mp 0, .t (.int .i64 0), .t (.int .i64 t2)]), (6, .cells [.own 10 1 ((tk ++ [at_]).map nE), .gsl 9 (pl (psN (addD D x) 0)).length 0 (pl (psN (addD D x) 0)).length 1, .t (.int .i64 0), .mp 5]), (7, .fobs ((psN (addD D x) 0).map Pl.cs)), (9, .gro (pl (psN (addD D x) 0)).length (gE (pE 7) (pl (psN (addD D x) 0)))), (10, .arr (tk ++ [at_]).length)]) (by repeat' (first | exact (rfl : renOb _ [] = []) | refine renOb_cons rfl ?_ ?_ | exact rfl | exact ren_pls _ _ | (refine ren_open ?_ _ _ _; exact rfl) | (refine AObj.ren_gE ?_ _ _; intro _; rfl))) rfl rfl ?_
      refine fM rfl ?_
      refine Mid.elemMapC (Val.enc_eq x) rfl rfl rfl h1 rfl rfl ?_
      refine fM rfl ?_
      refine Mid.callR [2, 3, 11, 12, 13, 14, 15, 16, 17, 18, 19, 20, 21, 22, 23, 24] (f1) rfl rfl rfl rfl (by repeat' (first | exact (rfl : stoBd _ [] = true) | refine stoBd_cons (Nat.le_of_ble_eq_true rfl) ?_ ?_ | exact (by first | rfl | (refine open_bd ?_ _ _; exact Nat.le_of_ble_eq_true rfl) | exact pls_bd _ _ | (refine gE_bd ?_ _; exact Nat.le_of_ble_eq_true rfl)))) (by repeat' (first | exact trivial | refine And.intro ?_ ?_ | exact rfl | exact (congrArg some (ren_pls _ _)).symm | (refine (congrArg some (ren_open ?_ _ _ _)).symm; exact rfl) | (refine (congrArg some (AObj.ren_gE ?_ _ _)).symm; intro _; rfl))) rfl (v' := .tup [.t (.int .i64 tk.length), .t (.int .i64 0)]) rfl (ob' := [(3, .cells [.t (.int .i64 n), .mp 2, .t (.int .i64 0), .t (.int .i64 sc)]), (13, .cells [.own 17 1 ((tk ++ [at_]).map nE), .gsl 16 (pl (psN (addD D x) 0)).length 0 (pl (psN (addD D x) 0)).length 1, .t (.int .i64 0), .mp 12]), (14, .fobs ((psN (addD D x) 0).map Pl.cs)), (16, .gro (pl (psN (addD D x) 0)).length (gE (pE 14) (pl (psN (addD D x) 0)))), (17, .arr (tk ++ [at_]).length)]) (by repeat' (first | exact (rfl : renOb _ [] = []) | refine renOb_cons rfl ?_ ?_ | exact rfl | exact ren_pls _ _ | (refine ren_open ?_ _ _ _; exact rfl) | (refine AObj.ren_gE ?_ _ _; intro _; rfl))) rfl rfl ?_
      refine fM rfl ?_
      refine lM rfl rfl rfl ?_
      refine fM rfl ?_
      by_cases hio : i + 1 < o.length
      · obtain ⟨y, hy⟩ : ∃ y, o[i + 1]? = some y := ⟨_, List.getElem?_eq_getElem hio⟩
        have hyk := hoo y (List.mem_of_getElem? hy)
        have htk2 : o.take (i + 1 + 1) = o.take (i + 1) ++ [y] := by rw [List.take_add_one, hy]; rfl
        have g1 := add_ok2 H n 0 sc 2 0 tl (psN E 0) [] [([.int .i64 (1 : Int)], .ptr 11 0), ([.int .i64 (2 : Int)], .ptr 4 0)] (by decide) y hyk (by omega) (by omega) (by rw [psN_len]; omega) (psN_ok hEk) rfl rfl (fun m h => by simp [V.bds, V.bd]; omega) (fun _ _ => rfl) (.map false [] none) (.cells [.own 15 1 ((tk ++ [at_]).map nE), .gsl 14 (pl (psN (addD D x) 0)).length 0 (pl (psN (addD D x) 0)).length 1, .t (.int .i64 0), .mp 10]) (.fobs ((psN (addD D x) 0).map Pl.cs)) (.gro (pl (psN (addD D x) 0)).length (gE (pE 12) (pl (psN (addD D x) 0)))) (.arr (tk ++ [at_]).length) (fun _ h => (by first | rfl | exact open_bd (by omega) _ _ | exact pls_bd _ _ | exact gE_bd (by omega) _ | (simp [AObj.bd, V.bds, V.bd]; omega) | (simp [AObj.bd, V.bds, V.bd]; done))) (fun _ h => (by first | rfl | exact open_bd (by omega) _ _ | exact pls_bd _ _ | exact gE_bd (by omega) _ | (simp [AObj.bd, V.bds, V.bd]; omega) | (simp [AObj.bd, V.bds, V.bd]; done))) (fun _ h => (by first | rfl | exact open_bd (by omega) _ _ | exact pls_bd _ _ | exact gE_bd (by omega) _ | (simp [AObj.bd, V.bds, V.bd]; omega) | (simp [AObj.bd, V.bds, V.bd]; done))) (fun _ h => (by first | rfl | exact open_bd (by omega) _ _ | exact pls_bd _ _ | exact gE_bd (by omega) _ | (simp [AObj.bd, V.bds, V.bd]; omega) | (simp [AObj.bd, V.bds, V.bd]; done))) (fun _ h => (by first | rfl | exact open_bd (by omega) _ _ | exact pls_bd _ _ | exact gE_bd (by omega) _ | (simp [AObj.bd, V.bds, V.bd]; omega) | (simp [AObj.bd, V.bds, V.bd]; done)))
        rw [addPs_psN] at g1
        have hQ := hU.push y
        rw [← htk2] at hQ
        generalize (addAt (psN E 0) y : Int) = bt_ at g1 hQ
        generalize addS (psN E 0) y = d2 at g1 hQ
        generalize hsd : sc + d2 = sd at g1
        refine Run.condT rfl rfl (by simp; omega) ?_
        refine fR rfl ?_
        refine Mid.elemMapC (Val.enc_eq y) rfl rfl rfl hy rfl rfl ?_
        refine fM rfl ?_
        refine Mid.callR [2, 3, 18, 19, 20, 21, 22, 23, 24, 11, 12, 13, 14, 15, 16, 17] (g1) rfl rfl rfl rfl (by repeat' (first | exact (rfl : stoBd _ [] = true) | refine stoBd_cons (Nat.le_of_ble_eq_true rfl) ?_ ?_ | exact (by first | rfl | (refine open_bd ?_ _ _; exact Nat.le_of_ble_eq_true rfl) | exact pls_bd _ _ | (refine gE_bd ?_ _; exact Nat.le_of_ble_eq_true rfl)))) (by repeat' (first | exact trivial | refine And.intro ?_ ?_ | exact rfl | exact (congrArg some (ren_pls _ _)).symm | (refine (congrArg some (ren_open ?_ _ _ _)).symm; exact rfl) | (refine (congrArg some (AObj.ren_gE ?_ _ _)).symm; intro _; rfl))) rfl (v' := .tup [.t (.int .i64 tl.length), .t (.int .i64 0)]) rfl (ob' := [(3, .cells [.t (.int .i64 n), .mp 2, .t (.int .i64 0), .t (.int .i64 sd)]), (20, .cells [.own 24 1 ((tl ++ [bt_]).map nE), .gsl 23 (pl (psN (addD E y) 0)).length 0 (pl (psN (addD E y) 0)).length 1, .t (.int .i64 0), .mp 19]), (21, .fobs ((psN (addD E y) 0).map Pl.cs)), (23, .gro (pl (psN (addD E y) 0)).length (gE (pE 21) (pl (psN (addD E y) 0)))), (24, .arr (tl ++ [bt_]).length)]) (by repeat' (first | exact (rfl : renOb _ [] = []) | refine renOb_cons rfl ?_ ?_ | exact rfl | exact ren_pls _ _ | (refine ren_open ?_ _ _ _; exact rfl) | (refine AObj.ren_gE ?_ _ _; intro _; rfl))) rfl rfl ?_
        refine fM rfl ?_
        refine aL rfl rfl rfl rfl rfl ?_
        refine fM rfl ?_
        exact rWeak 25 rfl (ih ((addD D x, tk ++ [at_], t2), (addD E y, tl ++ [bt_], sd)) (fun _ => ⟨hP, s2 + d2, hQ, by dsimp only; omega⟩)) rfl rfl rfl (he := (by repeat' (first | exact trivial | exact LeX.t | exact LeX.top | exact LeX.nilOwn (Nat.le_of_ble_eq_true rfl) (Nat.le_of_ble_eq_true rfl) | exact LeX.ownT | exact LeX.nilT | exact LeX.same rfl | exact LeX.tEq (by simp) | exact LeX.ownEq (by simp) (Nat.le_of_ble_eq_true rfl) | exact LeX.tEq (by congr 1 <;> omega) | exact Or.inr ⟨Nat.le_of_ble_eq_true rfl, Nat.le_of_ble_eq_true rfl, rfl⟩ | refine Or.inl ⟨Nat.le_of_ble_eq_true rfl, _, rfl, ?_⟩ | refine LeO.cells ?_ | exact LeO.arr rfl | exact LeO.arr (by simp) | exact LeO.mE (by first | rfl | simp) (by first | exact Or.inl rfl | exact Or.inr rfl) | exact LeO.cE (by first | rfl | simp) | exact LeXs.cE (by first | rfl | simp) | refine LeO.map (by first | rfl | simp) ?_ (by first | exact Or.inl rfl | exact Or.inr rfl) | exact LeO.iter (by first | rfl | simp) (Nat.le_of_ble_eq_true rfl) | refine LeXs.cons ?_ ?_ | exact LeXs.nil | refine And.intro ?_ ?_))) (hs := (by repeat' (first | exact trivial | refine And.intro ?_ ?_ | exact Or.inl ⟨(Nat.le_of_ble_eq_true rfl), _, rfl, LeO.arr (by simp)⟩ | exact Or.inr ⟨Nat.le_of_ble_eq_true rfl, Nat.le_of_ble_eq_true rfl, rfl⟩ | exact Or.inl ⟨(Nat.le_of_ble_eq_true rfl), _, rfl, AObj.leSame (by first | rfl | (refine open_bd ?_ _ _; exact Nat.le_of_ble_eq_true rfl) | exact pls_bd _ _ | (refine gE_bd ?_ _; exact Nat.le_of_ble_eq_true rfl))⟩)))
      · refine Run.condF rfl rfl (by simp; omega) ?_
        refine fR rfl ?_
        refine aL rfl rfl rfl rfl rfl ?_
        refine fM rfl ?_
        exact rWeak 25 rfl (ih ((addD D x, tk ++ [at_], t2), (E, tl, sc)) (fun _ => ⟨hP, s2, by rw [List.take_of_length_le (by omega)]; rw [List.take_of_length_le (by omega)] at hU; exact hU, by dsimp only; omega⟩)) rfl rfl rfl (he := (by repeat' (first | exact trivial | exact LeX.t | exact LeX.top | exact LeX.nilOwn (Nat.le_of_ble_eq_true rfl) (Nat.le_of_ble_eq_true rfl) | exact LeX.ownT | exact LeX.nilT | exact LeX.same rfl | exact LeX.tEq (by simp) | exact LeX.ownEq (by simp) (Nat.le_of_ble_eq_true rfl) | exact LeX.tEq (by congr 1 <;> omega) | exact Or.inr ⟨Nat.le_of_ble_eq_true rfl, Nat.le_of_ble_eq_true rfl, rfl⟩ | refine Or.inl ⟨Nat.le_of_ble_eq_true rfl, _, rfl, ?_⟩ | refine LeO.cells ?_ | exact LeO.arr rfl | exact LeO.arr (by simp) | exact LeO.mE (by first | rfl | simp) (by first | exact Or.inl rfl | exact Or.inr rfl) | exact LeO.cE (by first | rfl | simp) | exact LeXs.cE (by first | rfl | simp) | refine LeO.map (by first | rfl | simp) ?_ (by first | exact Or.inl rfl | exact Or.inr rfl) | exact LeO.iter (by first | rfl | simp) (Nat.le_of_ble_eq_true rfl) | refine LeXs.cons ?_ ?_ | exact LeXs.nil | refine And.intro ?_ ?_))) (hs := (by repeat' (first | exact trivial | refine And.intro ?_ ?_ | exact Or.inl ⟨(Nat.le_of_ble_eq_true rfl), _, rfl, LeO.arr (by simp)⟩ | exact Or.inr ⟨Nat.le_of_ble_eq_true rfl, Nat.le_of_ble_eq_true rfl, rfl⟩ | exact Or.inl ⟨(Nat.le_of_ble_eq_true rfl), _, rfl, AObj.leSame (by first | rfl | (refine open_bd ?_ _ _; exact Nat.le_of_ble_eq_true rfl) | exact pls_bd _ _ | (refine gE_bd ?_ _; exact Nat.le_of_ble_eq_true rfl))⟩)))
end Go.GB.C35

