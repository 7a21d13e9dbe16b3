/-
  YtifhefgdimgkiaaP5: lemmas of this proof (part 5). No conditions.
-/
import Derived.Test.YtifhefgdimgkiaaP4

/-
  R26E: contracts of chapter 26's functions: solve.
-/
namespace Go.GB.C26
open Go.GB
set_option linter.unusedSimpArgs false
set_option linter.unusedVariables false
set_option maxRecDepth 100000
set_option maxHeartbeats 1000000
variable {P : Program}

/-- 'at' while the spots grow -/
theorem at_ok2 (H : Pr P) {a0 a1 a2 a3 : T} {sp : List Spot} {F : List (Str × Int)} {A : List Int} {nb : Nat} (g : Nat) (hg : g < 8 * nb) (hb : nb < 1000) :
    FnOk P 26 [.ptr 0 0, .t (.int .i64 g)] ⟨[(0, .cells [.t a0, .t a1, .t a2, .t a3, .own 3 3 (sp.map Spot.enc), .nils, .nils, .slc 2 0 nb 8, .mp 1]), (1, .map false (mE sE iE F) none), (2, .cells (cE iE A)), (3, .arr sp.length)], 4⟩ { v := .ptr 2 g, rd := true } := by
  refine FnOk.run H.i26 H.mixed rfl rfl ?_
  refine fR rfl ?_
  refine Mid.quoN rfl rfl rfl rfl (by omega) (by omega) rfl ?_
  refine fM rfl ?_
  refine Mid.remN rfl rfl rfl rfl (by omega) rfl ?_
  refine Mid.iaS rfl rfl (by omega) rfl ?_
  refine Mid.iarrS rfl rfl (by omega) rfl ?_
  refine fM rfl ?_
  refine Run.fin rfl (EndOk.sameX rfl (ex := []) rfl rfl (by simp [stoBd, AObj.bd_mE, AObj.bd_cE]; simp [AObj.bd, V.bds, V.bd]) (.le (.eq (congrArg (V.ptr 2) (by omega : 0 + g / 8 * 8 + g % 8 * 1 = g)) (by rfl))))

def inb (n : Nat) (x : Spot) : Bool := decide (x.graph ≥ 0) && decide (x.graph < n) && decide (x.depth ≥ 1) && decide (x.depth ≤ 1099511627776)
def spots0 (n : Nat) : List Spot → List Spot → List Int → List Spot × List Int
  | [], sp, A => (sp, A)
  | x :: r, sp, A => if inb n x = true then spots0 n r (sp ++ [x]) (A.set x.graph.toNat (lesser (A.getD x.graph.toNat 0) x.depth)) else spots0 n r sp A
def lvE (p : Str × Int) : List T := [.str p.1, .int .i64 p.2, .int .i64 0]
def bE (b : Bool) : T := .bool b
theorem lvE_ok : KeyEnc [.str, .int .i64, .int .i64] lvE :=
  ⟨fun _ => rfl, fun x y h => by simp [lvE, keyEq, T.eqb] at h; exact Prod.ext h.1 h.2, fun x => by simp [lvE, keyEq, T.eqb]⟩
def inj (n : Nat) (name : Str) (seen : List ((Str × Int) × Bool)) (j : Join) : Bool := (j.ty == name) && decide (j.graph ≥ 0) && decide (j.graph < n) && !((kget (j.field, j.graph) seen).getD false)
def joins0 (n : Nat) (name : Str) : List Join → List Join → List ((Str × Int) × Bool) → List Join
  | [], js, _ => js
  | j :: r, js, seen => if inj n name seen j = true then joins0 n name r (js ++ [j]) (kset (j.field, j.graph) true seen) else joins0 n name r js seen
def ink (n : Nat) (name : Str) (k : KeyO) : Bool := (k.ty == name) && decide (k.graph ≥ 0) && decide (k.graph < n)
def keys0 (n : Nat) (name : Str) : List KeyO → List KeyO → List KeyO
  | [], ks => ks
  | k :: r, ks => if ink n name k = true then keys0 n name r (ks ++ [k]) else keys0 n name r ks

def iterP (n : Nat) (sp : List Spot) (js : List Join) (ks : List KeyO) : Nat → List (Str × Int) → List Int → List (Str × Int) × List Int
  | 0, F, A => (F, A)
  | f + 1, F, A => if (roundP n sp js ks F A).2.2 = true then iterP n sp js ks f (roundP n sp js ks F A).1 (roundP n sp js ks F A).2.1 else ((roundP n sp js ks F A).1, (roundP n sp js ks F A).2.1)
def stops (n : Nat) (sp : List Spot) (js : List Join) (ks : List KeyO) : Nat → List (Str × Int) → List Int → Prop
  | 0, _, _ => False
  | f + 1, F, A => (roundP n sp js ks F A).2.2 = true → stops n sp js ks f (roundP n sp js ks F A).1 (roundP n sp js ks F A).2.1

theorem solve_ok (H : Pr P) (s : Super) (name : Str) (here sp : List Spot) (js : List Join) (ks : List KeyO) (A0 A1 : List Int) (F1 : List (Str × Int)) (fuel : Nat) (h1 : s.graphs.length ≤ 2000) (h2 : here.length ≤ 100000) (h3 : s.joins.length ≤ 100000) (h4 : s.keys.length ≤ 100000)
    (e1 : spots0 s.graphs.length here [] (List.replicate (s.graphs.length / 8 + 1) (List.replicate 8 0)).flatten = (sp, A0)) (e2 : joins0 s.graphs.length name s.joins [] [] = js) (e3 : keys0 s.graphs.length name s.keys [] = ks)
    (hN : NOk s sp js ks (s.graphs.length / 8 + 1) A0) (hst : stops s.graphs.length sp js ks fuel [] A0) (e4 : iterP s.graphs.length sp js ks fuel [] A0 = (F1, A1)) :
    FnOk P 25 [.agg [.t (.lst (s.graphs.map sE)), .t s.doc, .t (.lst (s.keys.map KeyO.enc)), .t (.lst (s.joins.map Join.enc))], .t (.str name), .t (.lst (here.map Spot.enc))] ⟨[], 0⟩ { v := .ptr 3 0, ob := [(1, .map false (mE sE iE F1) none), (2, .cells (cE iE A1)), (3, .cells (nCells s sp js ks (s.graphs.length / 8 + 1)))], n := 4 } := by
  refine FnOk.run H.i25 H.mixed rfl rfl ?_
  refine fR rfl ?_
  refine Mid.mkmapT sE iE rfl ?_
  refine fM rfl ?_
  refine lM rfl rfl rfl ?_
  refine Mid.quoN rfl rfl rfl rfl (by omega) (by omega) rfl ?_
  refine aL rfl rfl rfl rfl rfl ?_
  refine Mid.makeE (List.replicate 8 0) rfl (by omega) (by omega) rfl rfl rfl ?_
  refine fM rfl ?_
  refine lM rfl rfl rfl ?_
  refine fM rfl ?_
  refine rList here (fun i (b : List Spot × List Int) => { env := [(1, .t (.str name)), (3, .ptr 0 0), (7, .ptr 3 0), (26, .t (.lst (here.map Spot.enc))), (27, .t (.int .i64 here.length)), (28, .t (.int .i64 i))], s := ⟨[(0, .cells [.t (.lst (s.graphs.map sE)), .t s.doc, .t (.lst (s.keys.map KeyO.enc)), .t (.lst (s.joins.map Join.enc))]), (1, .map false (mE sE iE []) none), (2, .cells (cE iE b.2)), (3, .cells [.t (.lst (s.graphs.map sE)), .t s.doc, .t (.lst (s.keys.map KeyO.enc)), .t (.lst (s.joins.map Join.enc)), .own 4 3 (b.1.map Spot.enc), .nils, .nils, .slc 2 0 (s.graphs.length / 8 + 1) 8, .mp 1]), (4, .arr b.1.length)], 5⟩ }) (fun r i b => b.1.length ≤ i ∧ b.2.length = 8 * (s.graphs.length / 8 + 1) ∧ spots0 s.graphs.length r b.1 b.2 = (sp, A0)) 4 ([], (List.replicate (s.graphs.length / 8 + 1) (List.replicate 8 0)).flatten) rfl ⟨by simp, by simp; omega, e1⟩ rfl rfl rfl ?_ ?_
  · rintro ⟨sp', A'⟩ ⟨_, _, hinv⟩
    simp only [spots0] at hinv
    cases hinv
    refine fR rfl ?_
    refine Run.condF rfl rfl (by simp) ?_
    refine fR rfl ?_
    refine Mid.mkmapT lvE bE rfl ?_
    refine fM rfl ?_
    refine lM rfl rfl rfl ?_
    refine fM rfl ?_
    refine rList s.joins (fun i (b : List Join × List ((Str × Int) × Bool)) => { env := [(1, .t (.str name)), (3, .ptr 0 0), (7, .ptr 3 0), (10, .mp 5), (80, .t (.lst (s.joins.map Join.enc))), (81, .t (.int .i64 s.joins.length)), (82, .t (.int .i64 i))], s := ⟨[(0, .cells [.t (.lst (s.graphs.map sE)), .t s.doc, .t (.lst (s.keys.map KeyO.enc)), .t (.lst (s.joins.map Join.enc))]), (1, .map false (mE sE iE []) none), (2, .cells (cE iE A0)), (3, .cells [.t (.lst (s.graphs.map sE)), .t s.doc, .t (.lst (s.keys.map KeyO.enc)), .t (.lst (s.joins.map Join.enc)), .t (.lst (sp.map Spot.enc)), .own 6 6 (b.1.map Join.enc), .nils, .slc 2 0 (s.graphs.length / 8 + 1) 8, .mp 1]), (5, .map true (mE lvE bE b.2) none), (6, .arr b.1.length)], 7⟩ }) (fun r i b => b.1.length ≤ i ∧ joins0 s.graphs.length name r b.1 b.2 = js) 6 ([], []) rfl ⟨by simp, e2⟩ rfl rfl rfl ?_ ?_
    · rintro ⟨js', seen⟩ ⟨_, hinv⟩
      simp only [joins0] at hinv
      subst hinv
      refine fR rfl ?_
      refine Run.condF rfl rfl (by simp) ?_
      refine fR rfl ?_
      refine lM rfl rfl rfl ?_
      refine fM rfl ?_
      refine rList s.keys (fun i (b : List KeyO) => { env := [(1, .t (.str name)), (3, .ptr 0 0), (7, .ptr 3 0), (128, .t (.lst (s.keys.map KeyO.enc))), (129, .t (.int .i64 s.keys.length)), (130, .t (.int .i64 i))], s := ⟨[(0, .cells [.t (.lst (s.graphs.map sE)), .t s.doc, .t (.lst (s.keys.map KeyO.enc)), .t (.lst (s.joins.map Join.enc))]), (1, .map false (mE sE iE []) none), (2, .cells (cE iE A0)), (3, .cells [.t (.lst (s.graphs.map sE)), .t s.doc, .t (.lst (s.keys.map KeyO.enc)), .t (.lst (s.joins.map Join.enc)), .t (.lst (sp.map Spot.enc)), .t (.lst (js'.map Join.enc)), .own 5 3 (b.map KeyO.enc), .slc 2 0 (s.graphs.length / 8 + 1) 8, .mp 1]), (5, .arr b.length)], 6⟩ }) (fun r i b => b.length ≤ i ∧ keys0 s.graphs.length name r b = ks) 5 [] rfl ⟨by simp, e3⟩ rfl rfl rfl ?_ ?_
      · rintro ks' ⟨_, hinv⟩
        simp only [keys0] at hinv
        subst hinv
        refine fR rfl ?_
        refine Run.condF rfl rfl (by simp) ?_
        skip
        refine rLoopM (β := Nat × List (Str × Int) × List Int) (fun b => { env := [(7, .ptr 3 0)], s := ⟨[(1, .map false (mE sE iE b.2.1) none), (2, .cells (cE iE b.2.2)), (3, .cells (nCells s sp js' ks' (s.graphs.length / 8 + 1)))], 4⟩ })
          (fun b => NOk s sp js' ks' (s.graphs.length / 8 + 1) b.2.2 ∧ stops s.graphs.length sp js' ks' b.1 b.2.1 b.2.2 ∧ iterP s.graphs.length sp js' ks' b.1 b.2.1 b.2.2 = (F1, A1)) (fun b => b.1) 4 (fuel, [], A0) rfl ⟨hN, hst, e4⟩ rfl rfl rfl ?_ (he := (by repeat' (first | exact trivial | exact LeX.t | exact LeX.top | exact LeX.nilOwn (Nat.le_of_ble_eq_true rfl) (Nat.le_of_ble_eq_true rfl) | exact LeX.ownT | exact LeX.nilT | exact LeX.same rfl | exact LeX.tEq (by simp) | exact LeX.ownEq (by simp) (Nat.le_of_ble_eq_true rfl) | exact LeX.tEq (by congr 1 <;> omega) | exact Or.inr ⟨Nat.le_of_ble_eq_true rfl, Nat.le_of_ble_eq_true rfl, rfl⟩ | refine Or.inl ⟨Nat.le_of_ble_eq_true rfl, _, rfl, ?_⟩ | refine LeO.cells ?_ | exact LeO.arr rfl | exact LeO.arr (by simp) | exact LeO.mE (by first | rfl | simp) (by first | exact Or.inl rfl | exact Or.inr rfl) | exact LeO.cE (by first | rfl | simp) | exact LeXs.cE (by first | rfl | simp) | refine LeO.map (by first | rfl | simp) ?_ (by first | exact Or.inl rfl | exact Or.inr rfl) | refine LeXs.cons ?_ ?_ | exact LeXs.nil | refine And.intro ?_ ?_))) (hs := (by repeat' (first | exact trivial | exact LeX.t | exact LeX.top | exact LeX.nilOwn (Nat.le_of_ble_eq_true rfl) (Nat.le_of_ble_eq_true rfl) | exact LeX.ownT | exact LeX.nilT | exact LeX.same rfl | exact LeX.tEq (by simp) | exact LeX.ownEq (by simp) (Nat.le_of_ble_eq_true rfl) | exact LeX.tEq (by congr 1 <;> omega) | exact Or.inr ⟨Nat.le_of_ble_eq_true rfl, Nat.le_of_ble_eq_true rfl, rfl⟩ | refine Or.inl ⟨Nat.le_of_ble_eq_true rfl, _, rfl, ?_⟩ | refine LeO.cells ?_ | exact LeO.arr rfl | exact LeO.arr (by simp) | exact LeO.mE (by first | rfl | simp) (by first | exact Or.inl rfl | exact Or.inr rfl) | exact LeO.cE (by first | rfl | simp) | exact LeXs.cE (by first | rfl | simp) | refine LeO.map (by first | rfl | simp) ?_ (by first | exact Or.inl rfl | exact Or.inr rfl) | refine LeXs.cons ?_ ?_ | exact LeXs.nil | refine And.intro ?_ ?_)))
        rintro ⟨f, F', A'⟩ ⟨hN', hs', hi'⟩ ih
        cases f with
        | zero => exact hs'.elim
        | succ f =>
          simp only [stops] at hs'
          simp only [iterP] at hi'
          refine fR rfl ?_
          refine Mid.callR [3, 1, 2] (round_ok (F := F') H hN') rfl rfl rfl rfl nSto_bd (by repeat' (first | exact trivial | exact rfl | refine And.intro ?_ ?_ | exact (congrArg some (AObj.ren_mE _ _ _ _ _ _)).symm | exact (congrArg some (AObj.ren_cE _ _ _)).symm)) rfl rfl (ob' := [(1, .map false (mE sE iE (roundP s.graphs.length sp js' ks' F' A').1) none), (2, .cells (cE iE (roundP s.graphs.length sp js' ks' F' A').2.1))]) ((by simp only [renOb, AObj.ren_mE, AObj.ren_cE]; rfl)) rfl rfl ?_
          refine fM rfl ?_
          refine Run.cond rfl rfl (fun hc => ?_) (fun hc => ?_)
          · skip
            rw [if_pos hc] at hi'
            have hN2 : NOk s sp js' ks' (s.graphs.length / 8 + 1) (roundP s.graphs.length sp js' ks' F' A').2.1 := gR_ok hN' _ _ _ _ hN'
            exact rWeak 4 rfl (ih (f, (roundP s.graphs.length sp js' ks' F' A').1, (roundP s.graphs.length sp js' ks' F' A').2.1) (by simp) ⟨hN2, hs' hc, hi'⟩) rfl rfl rfl
          · refine fR rfl ?_
            rw [if_neg (by rw [hc]; simp)] at hi'
            cases hi'
            refine Run.fin rfl (EndOk.chg rfl rfl ?_ ?_)
            · exact .le (.same rfl)
            · exact (by repeat' (first | exact trivial | exact LeX.t | exact LeX.top | exact LeX.nilOwn (Nat.le_of_ble_eq_true rfl) (Nat.le_of_ble_eq_true rfl) | exact LeX.ownT | exact LeX.nilT | exact LeX.same rfl | exact LeX.tEq (by simp) | exact LeX.ownEq (by simp) (Nat.le_of_ble_eq_true rfl) | exact LeX.tEq (by congr 1 <;> omega) | exact Or.inr ⟨Nat.le_of_ble_eq_true rfl, Nat.le_of_ble_eq_true rfl, rfl⟩ | refine Or.inl ⟨Nat.le_of_ble_eq_true rfl, _, rfl, ?_⟩ | refine LeO.cells ?_ | exact LeO.arr rfl | exact LeO.arr (by simp) | exact LeO.mE (by first | rfl | simp) (by first | exact Or.inl rfl | exact Or.inr rfl) | exact LeO.cE (by first | rfl | simp) | exact LeXs.cE (by first | rfl | simp) | refine LeO.map (by first | rfl | simp) ?_ (by first | exact Or.inl rfl | exact Or.inr rfl) | refine LeXs.cons ?_ ?_ | exact LeXs.nil | refine And.intro ?_ ?_))
      · rintro i x r ks' hi1 hi hd ⟨hl, hinv⟩ ih
        refine fR rfl ?_
        refine Run.condT rfl rfl (by simp; omega) ?_
        refine fR rfl ?_
        refine Mid.elemMap rfl rfl rfl hi1 rfl rfl ?_
        refine fM rfl ?_
        refine lMG rfl rfl rfl rfl ?_
        refine fM rfl ?_
        refine Run.cond rfl rfl (fun hc => ?_) (fun hc => ?_)
        · have hc2 : ink s.graphs.length name x = true := hc
          refine fR rfl ?_
          refine apM KeyO.enc ks' [x] rfl rfl rfl rfl rfl ?_
          refine fM rfl ?_
          refine aL rfl rfl rfl rfl rfl ?_
          refine fM rfl ?_
          exact rWeak 6 rfl (ih (ks' ++ [x]) ⟨by simp; omega, by rw [← hinv]; simp only [keys0, hc2, if_true]⟩) rfl rfl rfl
        · refine fR rfl ?_
          refine aL rfl rfl rfl rfl rfl ?_
          refine fM rfl ?_
          have hc2 : ink s.graphs.length name x = false := hc
          exact rWeak 6 rfl (ih ks' ⟨by omega, by rw [← hinv]; simp [keys0, hc2]⟩) rfl rfl rfl
    · rintro i x r ⟨js', seen⟩ hi1 hi hd ⟨hl, hinv⟩ ih
      have hl' : js'.length ≤ i := hl
      refine fR rfl ?_
      refine Run.condT rfl rfl (by simp; omega) ?_
      refine fR rfl ?_
      refine Mid.elemMap rfl rfl rfl hi1 rfl rfl ?_
      refine fM rfl ?_
      refine lMG rfl rfl rfl rfl ?_
      refine fM rfl ?_
      refine Mid.lookTG ((x.field, x.graph)) rfl rfl rfl rfl rfl rfl (lvE_ok) (by (repeat' (first | exact trivial | exact Bool.not_or_self _ | exact grd1 _ | exact grd2 _ | exact grd3 _ _ | exact grd4 _ _ | refine And.intro ?_ ?_ | exact rfl | (simp; done) | (simp <;> omega))); done) (by (repeat' (first | exact trivial | exact Bool.not_or_self _ | exact grd1 _ | exact grd2 _ | exact grd3 _ _ | exact grd4 _ _ | refine And.intro ?_ ?_ | exact rfl | (simp; done) | (simp <;> omega))); done) rfl ?_
      refine fM rfl ?_
      refine Run.cond rfl rfl (fun hc => ?_) (fun hc => ?_)
      · have hc2 : inj s.graphs.length name seen x = true := hc
        refine fR rfl ?_
        refine Mid.mapT ((x.field, x.graph)) rfl rfl rfl rfl (lvE_ok) rfl ?_
        refine fM rfl ?_
        refine apM Join.enc js' [x] rfl rfl rfl rfl rfl ?_
        refine fM rfl ?_
        refine aL rfl rfl rfl rfl rfl ?_
        refine fM rfl ?_
        exact rWeak 7 rfl (ih (js' ++ [x], kset (x.field, x.graph) true seen) ⟨by simp; omega, by rw [← hinv]; simp only [joins0, hc2, if_true]⟩) rfl rfl rfl
      · refine fR rfl ?_
        refine aL rfl rfl rfl rfl rfl ?_
        refine fM rfl ?_
        have hc2 : inj s.graphs.length name seen x = false := hc
        exact rWeak 7 rfl (ih (js', seen) ⟨by simp only; omega, by rw [← hinv]; simp [joins0, hc2]⟩) rfl rfl rfl
  · rintro i ⟨gr, dp, pv⟩ r ⟨sp', A'⟩ hi1 hi hd ⟨hl, hA, hinv⟩ ih
    have hl' : sp'.length ≤ i := hl
    have hA' : A'.length = 8 * (s.graphs.length / 8 + 1) := hA
    refine fR rfl ?_
    refine Run.condT rfl rfl (by simp; omega) ?_
    refine fR rfl ?_
    refine Mid.elemMap rfl rfl rfl hi1 rfl rfl ?_
    refine fM rfl ?_
    refine lMG rfl rfl rfl rfl ?_
    refine fM rfl ?_
    refine Run.cond rfl rfl (fun hc => ?_) (fun hc => ?_)
    · have hc2 : inb s.graphs.length ⟨gr, dp, pv⟩ = true := hc
      have hg : 0 ≤ gr ∧ gr < s.graphs.length := by
        simp [inb] at hc2; omega
      obtain ⟨g, rfl⟩ := Int.eq_ofNat_of_zero_le hg.1
      have hiA : g < A'.length := by omega
      have hgd : A'[g]? = some (A'.getD g 0) := by rw [List.getD_eq_getElem?_getD, List.getElem?_eq_getElem hiA]; rfl
      refine fR rfl ?_
      refine apM Spot.enc sp' [⟨(g : Int), dp, pv⟩] rfl rfl rfl rfl rfl ?_
      refine fM rfl ?_
      refine Mid.callRd [3, 1, 2, 4] (at_ok2 (a0 := .lst (s.graphs.map sE)) (a1 := s.doc) (a2 := .lst (s.keys.map KeyO.enc)) (a3 := .lst (s.joins.map Join.enc)) (sp := sp' ++ [⟨(g : Int), dp, pv⟩]) (F := []) (A := A') (nb := s.graphs.length / 8 + 1) H g (by omega) (by omega)) rfl rfl rfl rfl (by simp [stoBd, AObj.bd_mE, AObj.bd_cE]; simp [AObj.bd, V.bds, V.bd]) (by repeat' (first | exact trivial | exact rfl | refine And.intro ?_ ?_ | exact (congrArg some (AObj.ren_mE _ _ _ _ _ _)).symm | exact (congrArg some (AObj.ren_cE _ _ _)).symm)) rfl ?_
      refine fM rfl ?_
      refine Mid.callRd [3, 1, 2, 4] (at_ok2 (a0 := .lst (s.graphs.map sE)) (a1 := s.doc) (a2 := .lst (s.keys.map KeyO.enc)) (a3 := .lst (s.joins.map Join.enc)) (sp := sp' ++ [⟨(g : Int), dp, pv⟩]) (F := []) (A := A') (nb := s.graphs.length / 8 + 1) H g (by omega) (by omega)) rfl rfl rfl rfl (by simp [stoBd, AObj.bd_mE, AObj.bd_cE]; simp [AObj.bd, V.bds, V.bd]) (by repeat' (first | exact trivial | exact rfl | refine And.intro ?_ ?_ | exact (congrArg some (AObj.ren_mE _ _ _ _ _ _)).symm | exact (congrArg some (AObj.ren_cE _ _ _)).symm)) rfl ?_
      refine p0 rfl ?_
      refine Mid.ldE rfl rfl (hgd) rfl ?_
      refine fM rfl ?_
      refine Mid.call (lesser_ok H (A'.getD g 0) dp) rfl rfl rfl rfl ?_
      refine p0 rfl ?_
      refine Mid.stE rfl rfl (hiA) rfl rfl ?_
      refine fM rfl ?_
      refine aL rfl rfl rfl rfl rfl ?_
      refine fM rfl ?_
      exact rWeak 5 rfl (ih (sp' ++ [⟨(g : Int), dp, pv⟩], A'.set g (lesser (A'.getD g 0) dp)) ⟨by simp; omega, by simpa using hA', by rw [← hinv]; simp only [spots0, hc2, if_true]; rfl⟩) rfl rfl rfl
    · refine fR rfl ?_
      refine aL rfl rfl rfl rfl rfl ?_
      refine fM rfl ?_
      have hc2 : inb s.graphs.length ⟨gr, dp, pv⟩ = false := hc
      exact rWeak 5 rfl (ih (sp', A') ⟨by simp only; omega, hA, by rw [← hinv]; simp [spots0, hc2]⟩) rfl rfl rfl
end Go.GB.C26

/-
  R26F: contracts of chapter 26's functions: what is handed out of the numbers.
-/
namespace Go.GB.C26
open Go.GB
set_option linter.unusedSimpArgs false
set_option linter.unusedVariables false
set_option maxRecDepth 100000
set_option maxHeartbeats 1000000
variable {P : Program}

/-- what 'solve' finds -/
structure Sol (s : Super) (name : Str) (here sp : List Spot) (js : List Join) (ks : List KeyO) (F1 : List (Str × Int)) (A1 : List Int) : Prop where
  h1 : s.graphs.length ≤ 2000
  h2 : here.length ≤ 100000
  h3 : s.joins.length ≤ 100000
  h4 : s.keys.length ≤ 100000
  e2 : joins0 s.graphs.length name s.joins [] [] = js
  e3 : keys0 s.graphs.length name s.keys [] = ks
  ex : ∃ A0 fuel, spots0 s.graphs.length here [] (List.replicate (s.graphs.length / 8 + 1) (List.replicate 8 0)).flatten = (sp, A0) ∧ NOk s sp js ks (s.graphs.length / 8 + 1) A0 ∧ stops s.graphs.length sp js ks fuel [] A0 ∧ iterP s.graphs.length sp js ks fuel [] A0 = (F1, A1)
  hN : NOk s sp js ks (s.graphs.length / 8 + 1) A1

def Super.v (s : Super) : V := .agg [.t (.lst (s.graphs.map sE)), .t s.doc, .t (.lst (s.keys.map KeyO.enc)), .t (.lst (s.joins.map Join.enc))]

section
variable {s : Super} {name : Str} {here sp : List Spot} {js : List Join} {ks : List KeyO} {F : List (Str × Int)} {A : List Int}

theorem solve_ok1 (H : Pr P) (h : Sol s name here sp js ks F A) : FnOk P 25 [s.v, .t (.str name), .t (.lst (here.map Spot.enc))] ⟨[], 0⟩ { v := .ptr 3 0, ob := [(1, .map false (mE sE iE F) none), (2, .cells (cE iE A)), (3, .cells (nCells s sp js ks (s.graphs.length / 8 + 1)))], n := 4 } := by
  obtain ⟨A0, fuel, g1, g2, g3, g4⟩ := h.ex
  exact solve_ok H s name here sp js ks A0 A F fuel h.h1 h.h2 h.h3 h.h4 g1 h.e2 h.e3 g2 g3 g4

def nC4 (s : Super) (sp : List Spot) (js : List Join) (ks : List KeyO) : List V :=
  [.t (.lst (s.graphs.map sE)), .t s.doc, .t (.lst (s.keys.map KeyO.enc)), .t (.lst (s.joins.map Join.enc)), .t (.lst (sp.map Spot.enc)), .t (.lst (js.map Join.enc)), .t (.lst (ks.map KeyO.enc)), .slc 3 0 (s.graphs.length / 8 + 1) 8, .mp 2]

theorem get_ok (H : Pr P) (h : Sol s name here sp js ks F A) (f : Str) : FnOk P 14 [s.v, .t (.str name), .t (.lst (here.map Spot.enc)), .t (.str f)] ⟨[], 0⟩ { v := .tup [.t (.int .i64 (levelP s.graphs.length F A f)), .t (.bool (decide (levelP s.graphs.length F A f > 0)))] } := by
  refine FnOk.run H.i14 H.mixed rfl rfl ?_
  refine fR rfl ?_
  refine Mid.callR [] (solve_ok1 H h) rfl rfl rfl rfl rfl (by repeat' (first | exact trivial | exact rfl | refine And.intro ?_ ?_ | exact (congrArg some (AObj.ren_mE _ _ _ _ _ _)).symm | exact (congrArg some (AObj.ren_cE _ _ _)).symm)) rfl rfl (ob' := [(2, .map false (mE sE iE F) none), (3, .cells (cE iE A)), (4, .cells (nC4 s sp js ks))]) ((by simp only [renOb, AObj.ren_mE, AObj.ren_cE]; rfl)) rfl rfl ?_
  refine fM rfl ?_
  refine Mid.callRd [4, 2, 3] (level_ok (F := F) H h.hN f) rfl rfl rfl rfl nSto_bd (by repeat' (first | exact trivial | exact rfl | refine And.intro ?_ ?_ | exact (congrArg some (AObj.ren_mE _ _ _ _ _ _)).symm | exact (congrArg some (AObj.ren_cE _ _ _)).symm)) rfl ?_
  refine fM rfl ?_
  refine Run.fin rfl (EndOk.go ?_); exact .tup2 (.t rfl) (.t rfl)

theorem set_take (A : List Int) (n i : Nat) (hi : i < n) (hA : n ≤ A.length) : (A.take i ++ List.replicate (n - i) 0).set i (A.getD i 0) = A.take (i + 1) ++ List.replicate (n - (i + 1)) 0 := by
  have h1 : n - i = (n - (i + 1)) + 1 := by omega
  have h2 : i < A.length := by omega
  rw [h1, List.replicate_succ, List.set_append_right _ _ (by simp; omega)]
  have h3 : i - (A.take i).length = 0 := by simp; omega
  have h4 : A.take (i + 1) = A.take i ++ [A[i]] := by rw [List.take_add_one, List.getElem?_eq_getElem h2]; rfl
  rw [h3, List.set_cons_zero, List.getD_eq_getElem?_getD, List.getElem?_eq_getElem h2, h4, List.append_assoc]
  rfl

theorem graphs_ok (H : Pr P) (h : Sol s name here sp js ks F A) : FnOk P 12 [s.v, .t (.str name), .t (.lst (here.map Spot.enc))] ⟨[], 0⟩ { v := .t (.lst ((A.take s.graphs.length).map fun x => [iE x])) } := by
  have h1 := h.h1
  have h2 := h.hN.lenA
  refine FnOk.run H.i12 H.mixed rfl rfl ?_
  refine fR rfl ?_
  refine Mid.callR [] (solve_ok1 H h) rfl rfl rfl rfl rfl (by repeat' (first | exact trivial | exact rfl | refine And.intro ?_ ?_ | exact (congrArg some (AObj.ren_mE _ _ _ _ _ _)).symm | exact (congrArg some (AObj.ren_cE _ _ _)).symm)) rfl rfl (ob' := [(2, .map false (mE sE iE F) none), (3, .cells (cE iE A)), (4, .cells (nC4 s sp js ks))]) ((by simp only [renOb, AObj.ren_mE, AObj.ren_cE]; rfl)) rfl rfl ?_
  refine fM rfl ?_
  refine lM rfl rfl rfl ?_
  refine Mid.makeE [0] rfl (by omega) (by omega) rfl rfl rfl ?_
  refine fM rfl ?_
  refine Mid.lenS rfl rfl ?_
  refine fM rfl ?_
  refine rList s.graphs (fun i (B : List Int) => { env := [(7, .ptr 4 0), (8, .slc 5 0 s.graphs.length 1), (19, .t (.int .i64 s.graphs.length)), (20, .t (.int .i64 i))], s := ⟨[(2, .map false (mE sE iE F) none), (3, .cells (cE iE A)), (4, .cells (nC4 s sp js ks)), (5, .cells (cE iE B))], 6⟩ }) (fun r i B => B = A.take i ++ List.replicate (s.graphs.length - i) 0) 6 ((List.replicate s.graphs.length [0]).flatten) rfl (by simp [List.flatten_replicate_singleton]) rfl rfl rfl ?_ ?_
  · intro B hinv
    refine fR rfl ?_
    refine Run.condF rfl rfl (by simp) ?_
    refine fR rfl ?_
    refine Run.fin rfl (EndOk.go ?_)
    have e : B = A.take s.graphs.length := by rw [hinv]; simp
    rw [← e]
    exact LeR.slcE (Nat.zero_le _) rfl (by rw [e]; simp; omega)
  · intro i x r B hi1 hi hd hinv ih
    refine fR rfl ?_
    refine Run.condT rfl rfl (by simp; omega) ?_
    have hiA : i < A.length := by omega
    have hgd : A[i]? = some (A.getD i 0) := by rw [List.getD_eq_getElem?_getD, List.getElem?_eq_getElem hiA]; rfl
    have hB : B.length = s.graphs.length := by rw [hinv]; simp; omega
    refine fR rfl ?_
    refine Mid.callRd [4, 2, 3] (at_ok (s := s) (sp := sp) (js := js) (ks := ks) (F := F) (A := A) H i (by omega) h.hN.hnb) rfl rfl rfl rfl nSto_bd (by repeat' (first | exact trivial | exact rfl | refine And.intro ?_ ?_ | exact (congrArg some (AObj.ren_mE _ _ _ _ _ _)).symm | exact (congrArg some (AObj.ren_cE _ _ _)).symm)) rfl ?_
    refine p0 rfl ?_
    refine Mid.ldE rfl rfl (hgd) rfl ?_
    refine Mid.iaS rfl rfl (by omega) rfl ?_
    have hB2 : B.set (0 + i * 1) (A.getD i 0) = A.take (i + 1) ++ List.replicate (s.graphs.length - (i + 1)) 0 := by
      have e : 0 + i * 1 = i := by omega
      rw [hinv, e]; exact set_take A _ i hi (by omega)
    refine Mid.stE rfl rfl ((by rw [hB]; omega)) rfl rfl ?_
    refine fM rfl ?_
    refine aL rfl rfl rfl rfl rfl ?_
    refine fM rfl ?_
    exact rWeak 6 rfl (ih (B.set (0 + i * 1) (A.getD i 0)) hB2) rfl rfl rfl
end
end Go.GB.C26

/-
  R26G: contracts of chapter 26's functions: Levels.
-/
namespace Go.GB.C26
open Go.GB
set_option linter.unusedSimpArgs false
set_option linter.unusedVariables false
set_option maxRecDepth 100000
set_option maxHeartbeats 1000000
variable {P : Program}

structure Level where
  field : Str
  graph : Int
  depth : Int
def Level.enc (l : Level) : List T := [.str l.field, .int .i64 l.graph, .int .i64 l.depth]
def levelsP (n : Nat) (sp : List Spot) (ks : List KeyO) (F : List (Str × Int)) (A : List Int) : List Join → List Level → List Level
  | [], acc => acc
  | j :: r, acc => levelsP n sp ks F A r (if readP n sp ks F A j > 0 then acc ++ [⟨j.field, j.graph, readP n sp ks F A j⟩] else acc)

section
variable {s : Super} {name : Str} {here sp : List Spot} {js : List Join} {ks : List KeyO} {F : List (Str × Int)} {A : List Int}

theorem levels_ok (H : Pr P) (h : Sol s name here sp js ks F A) : FnOk P 16 [s.v, .t (.str name), .t (.lst (here.map Spot.enc))] ⟨[], 0⟩ { v := .t (.lst ((levelsP s.graphs.length sp ks F A js []).map Level.enc)) } := by
  have h1 := h.h1
  have h2 := h.hN.lenA
  have h3 := h.hN.jsL
  refine FnOk.run H.i16 H.mixed rfl rfl ?_
  refine fR rfl ?_
  refine Mid.callR [] (solve_ok1 H h) rfl rfl rfl rfl rfl (by repeat' (first | exact trivial | exact rfl | refine And.intro ?_ ?_ | exact (congrArg some (AObj.ren_mE _ _ _ _ _ _)).symm | exact (congrArg some (AObj.ren_cE _ _ _)).symm)) rfl rfl (ob' := [(2, .map false (mE sE iE F) none), (3, .cells (cE iE A)), (4, .cells (nC4 s sp js ks))]) ((by simp only [renOb, AObj.ren_mE, AObj.ren_cE]; rfl)) rfl rfl ?_
  refine fM rfl ?_
  refine lM rfl rfl rfl ?_
  refine fM rfl ?_
  refine rList js (fun i (B : List Level) => { env := [(7, .ptr 4 0), (8, .own 5 3 (B.map Level.enc)), (19, .t (.lst (js.map Join.enc))), (20, .t (.int .i64 js.length)), (21, .t (.int .i64 i))], s := ⟨[(2, .map false (mE sE iE F) none), (3, .cells (cE iE A)), (4, .cells (nC4 s sp js ks)), (5, .arr B.length)], 6⟩ }) (fun r i B => B.length ≤ i ∧ levelsP s.graphs.length sp ks F A js [] = levelsP s.graphs.length sp ks F A r B) 5 [] rfl ⟨by simp, rfl⟩ rfl rfl rfl ?_ ?_
  · rintro B ⟨_, hinv⟩
    refine fR rfl ?_
    refine Run.condF rfl rfl (by simp) ?_
    refine fR rfl ?_
    refine Run.fin rfl (EndOk.go ?_)
    exact .own (by rw [hinv]; rfl)
  · rintro i x r B hi1 hi hd ⟨hl, hinv⟩ ih
    refine fR rfl ?_
    refine Run.condT rfl rfl (by simp; omega) ?_
    refine fR rfl ?_
    refine Mid.elemMap rfl rfl rfl hi1 rfl rfl ?_
    refine fM rfl ?_
    refine Mid.callRd [4, 2, 3] (read_ok (F := F) H h.hN x (h.hN.jsO x (List.mem_of_getElem? hi1))) rfl rfl rfl rfl nSto_bd (by repeat' (first | exact trivial | exact rfl | refine And.intro ?_ ?_ | exact (congrArg some (AObj.ren_mE _ _ _ _ _ _)).symm | exact (congrArg some (AObj.ren_cE _ _ _)).symm)) rfl ?_
    refine fM rfl ?_
    refine Run.cond rfl rfl (fun hc => ?_) (fun hc => ?_)
    · have hc2 : readP s.graphs.length sp ks F A x > 0 := by simpa using hc
      refine fR rfl ?_
      refine apM Level.enc B [⟨x.field, x.graph, readP s.graphs.length sp ks F A x⟩] rfl rfl rfl rfl rfl ?_
      refine fM rfl ?_
      refine aL rfl rfl rfl rfl rfl ?_
      refine fM rfl ?_
      exact rWeak 6 rfl (ih (B ++ [⟨x.field, x.graph, readP s.graphs.length sp ks F A x⟩]) ⟨by simp; omega, by rw [hinv]; simp only [levelsP, hc2, if_true]⟩) rfl rfl rfl
    · have hc2 : ¬ readP s.graphs.length sp ks F A x > 0 := by simpa using hc
      refine fR rfl ?_
      refine aL rfl rfl rfl rfl rfl ?_
      refine fM rfl ?_
      exact rWeak 6 rfl (ih B ⟨by omega, by rw [hinv]; simp only [levelsP, hc2, if_false]⟩) rfl rfl rfl
end
end Go.GB.C26

/-
  R26H: contracts of chapter 26's functions: the reference's level, greatest, key.
-/
namespace Go.GB.C26
open Go.GB
set_option linter.unusedSimpArgs false
set_option linter.unusedVariables false
set_option maxRecDepth 100000
set_option maxHeartbeats 1000000
variable {P : Program}

def least (a b : Int) : Int := if (a == 0 || (decide (b > 0) && decide (b < a))) = true then b else a
theorem least_ok (H : Pr P) (a b : Int) : FnOk P 42 [.t (.int .i64 a), .t (.int .i64 b)] ⟨[], 0⟩ { v := .t (.int .i64 (least a b)) } := by
  refine FnOk.run H.i42 H.mixed rfl rfl ?_
  refine fR rfl ?_
  refine Run.cond rfl rfl (fun h => ?_) (fun h => ?_)
  · refine fR rfl ?_
    refine Run.fin rfl (EndOk.go ?_); exact .t (by simp only [least, h, if_true])
  · refine fR rfl ?_
    refine Run.fin rfl (EndOk.go ?_); exact .t (by simp only [least, h]; simp)

def hasS (s : Str) : List Str → Bool
  | [] => false
  | x :: r => if x = s then true else hasS s r
theorem hasS_eq (s : Str) (l : List Str) : hasS s l = decide (s ∈ l) := by
  induction l with
  | nil => simp [hasS]
  | cons x r ih =>
    simp only [hasS]
    by_cases h : x = s
    · subst h; simp
    · have : ¬ s = x := fun e => h e.symm
      simp [h, ih, this]
theorem has_ok (H : Pr P) (l : List Str) (hl : l.length ≤ 9223372036854775807) (s : Str) : FnOk P 44 [.t (.lst (l.map sE)), .t (.str s)] ⟨[], 0⟩ { v := .t (.bool (decide (s ∈ l))) } := by
  rw [← hasS_eq]
  refine FnOk.run H.i44 H.mixed rfl rfl ?_
  refine fR rfl ?_
  refine rList l (fun i (_ : Unit) => { env := [(0, .t (.lst (l.map sE))), (1, .t (.str s)), (5, .t (.int .i64 i))], s := ⟨[], 0⟩ }) (fun r i _ => hasS s l = hasS s r) 0 () rfl rfl rfl rfl rfl ?_ ?_
  · intro _ hinv
    refine fR rfl ?_
    refine lM rfl rfl rfl ?_
    refine fM rfl ?_
    refine Run.condF rfl rfl (by simp) ?_
    refine fR rfl ?_
    refine Run.fin rfl (EndOk.go ?_); exact .t (by rw [hinv]; rfl)
  · intro i x r _ h1 hi hd hinv ih
    refine fR rfl ?_
    refine lM rfl rfl rfl ?_
    refine fM rfl ?_
    refine Run.condT rfl rfl (by simp; omega) ?_
    refine fR rfl ?_
    refine Mid.elemMap rfl rfl rfl h1 rfl rfl ?_
    refine fM rfl ?_
    refine Run.cond rfl rfl (fun h => ?_) (fun h => ?_)
    · refine fR rfl ?_
      refine Run.fin rfl (EndOk.go ?_)
      have : x = s := by simpa using h
      exact .t (by rw [hinv]; simp [hasS, this])
    · refine fR rfl ?_
      refine aL rfl rfl rfl rfl rfl ?_
      refine fM rfl ?_
      have : ¬ x = s := by simpa using h
      exact rWeak 0 rfl (ih () (by rw [hinv]; simp [hasS, this])) rfl rfl rfl

def tSto (n : Nat) (js : List Join) (ks : List KeyO) (sp : List Spot) (D A : List Int) : List (Nat × AObj) :=
  [(0, .cells [.t (.int .i64 n), .t (.lst (js.map Join.enc)), .t (.lst (ks.map KeyO.enc)), .t (.lst (sp.map Spot.enc)), .slc 1 0 js.length 1, .slc 2 0 n 1]), (1, .cells (cE iE D)), (2, .cells (cE iE A))]
theorem tSto_bd {n : Nat} {js : List Join} {ks : List KeyO} {sp : List Spot} {D A : List Int} : stoBd 3 (tSto n js ks sp D A) = true := by
  simp [tSto, stoBd, AObj.bd_mE, AObj.bd_cE]; simp [AObj.bd, V.bds, V.bd]

structure TOk (n : Nat) (js : List Join) (ks : List KeyO) (sp : List Spot) (D A : List Int) : Prop where
  hn : n ≤ 2000
  lenD : D.length = js.length
  lenA : A.length = n
  jsL : js.length ≤ 100000
  ksL : ks.length ≤ 100000
  spL : sp.length ≤ 100000
  spO : ∀ x ∈ sp, x.ok
  jsO : ∀ j ∈ js, (0 ≤ j.graph ∧ j.graph < n) ∧ j.req.length ≤ 100000 ∧ j.prov.length ≤ 100000
  ksO : ∀ k ∈ ks, k.ok

def foldA (A : List Int) : Nat → Nat → Int → Int
  | _, 0, b => b
  | i, c + 1, b => foldA A (i + 1) c (least b (A.getD i 0))
def foldD (D : List Int) (f : Str) : Nat → List Join → Int → Int
  | _, [], b => b
  | i, j :: r, b => foldD D f (i + 1) r (if j.field = f then least b (D.getD i 0) else b)
def tlevel (n : Nat) (js : List Join) (D A : List Int) (f : Str) : Int :=
  if f = tyN then foldA A 0 n 0 else foldD D f 0 js 0
def tgreat (n : Nat) (js : List Join) (D A : List Int) : List Str → Int → Int
  | [], m => m
  | f :: r, m => if tlevel n js D A f = 0 then 0 else tgreat n js D A r (if tlevel n js D A f > m then tlevel n js D A f else m)
def tkey (n : Nat) (js : List Join) (D A : List Int) (g : Int) : List KeyO → Int → Int
  | [], b => b
  | k :: r, b => tkey n js D A g r (if k.graph = g then least b (tgreat n js D A k.fields 0) else b)

section
variable {n : Nat} {js : List Join} {ks : List KeyO} {sp : List Spot} {D A : List Int}

theorem tlevel_ok (H : Pr P) (hT : TOk n js ks sp D A) (f : Str) : FnOk P 30 [.ptr 0 0, .t (.str f)] ⟨tSto n js ks sp D A, 3⟩ { v := .t (.int .i64 (tlevel n js D A f)), rd := true } := by
  have h1 := hT.hn
  have h2 := hT.lenA
  have h3 := hT.lenD
  have h4 := hT.jsL
  refine FnOk.run H.i30 H.mixed rfl rfl ?_
  refine fR rfl ?_
  refine Run.cond rfl rfl (fun hf => ?_) (fun hf => ?_)
  · refine fR rfl ?_
    have hf' : f = tyN := by simpa [tyN] using hf
    refine rList (List.range n) (fun i (b : Int) => { env := [(0, .ptr 0 0), (5, .t (.int .i64 b)), (6, .t (.int .i64 i))], s := ⟨tSto n js ks sp D A, 3⟩ }) (fun r i b => tlevel n js D A f = foldA A i r.length b) 3 0 rfl (by simp [tlevel, hf']) rfl rfl rfl ?_ ?_
    · intro b hinv
      refine fR rfl ?_
      refine Run.condF rfl rfl (by simp) ?_
      refine fR rfl ?_
      refine Run.fin rfl (EndOk.sameX rfl rfl rfl (by first | exact rfl | exact nSto_bd | exact tSto_bd) (.t ((by rw [hinv]; rfl))))
    · intro i x r b hi1 hi hd hinv ih
      simp only [List.length_range] at hi
      refine fR rfl ?_
      refine Run.condT rfl rfl (by simp; omega) ?_
      have hgd : A[0 + i * 1]? = some (A.getD i 0) := by
        have e : 0 + i * 1 = i := by omega
        rw [e, List.getD_eq_getElem?_getD, List.getElem?_eq_getElem (by omega)]; rfl
      refine fR rfl ?_
      refine Mid.iaS rfl rfl (by omega) rfl ?_
      refine Mid.ldE rfl rfl (hgd) rfl ?_
      skip
      refine Mid.call (least_ok H b (A.getD i 0)) rfl rfl rfl rfl ?_
      refine fM rfl ?_
      refine aL rfl rfl rfl rfl rfl ?_
      refine fM rfl ?_
      exact rWeak 3 rfl (ih (least b (A.getD i 0)) (by rw [hinv]; rfl)) rfl rfl rfl
  · refine fR rfl ?_
    have hf' : ¬ f = tyN := by
      intro h; rw [h] at hf; revert hf; decide
    refine rList js (fun i (b : Int) => { env := [(0, .ptr 0 0), (1, .t (.str f)), (5, .t (.int .i64 b)), (7, .t (.int .i64 i))], s := ⟨tSto n js ks sp D A, 3⟩ }) (fun r i b => tlevel n js D A f = foldD D f i r b) 3 0 rfl (by simp [tlevel, hf']) rfl rfl rfl ?_ ?_
    · intro b hinv
      refine fR rfl ?_
      refine lM rfl rfl rfl ?_
      refine fM rfl ?_
      refine Run.condF rfl rfl (by simp) ?_
      refine fR rfl ?_
      refine Run.fin rfl (EndOk.sameX rfl rfl rfl (by first | exact rfl | exact nSto_bd | exact tSto_bd) (.t ((by rw [hinv]; rfl))))
    · intro i x r b hi1 hi hd hinv ih
      refine fR rfl ?_
      refine lM rfl rfl rfl ?_
      refine fM rfl ?_
      refine Run.condT rfl rfl (by simp; omega) ?_
      have hgd : D[0 + i * 1]? = some (D.getD i 0) := by
        have e : 0 + i * 1 = i := by omega
        rw [e, List.getD_eq_getElem?_getD, List.getElem?_eq_getElem (by omega)]; rfl
      refine fR rfl ?_
      refine Mid.elemMap rfl rfl rfl hi1 rfl rfl ?_
      refine fM rfl ?_
      refine Run.cond rfl rfl (fun hc => ?_) (fun hc => ?_)
      · refine fR rfl ?_
        refine Mid.iaS rfl rfl (by omega) rfl ?_
        have hc' : x.field = f := by simpa using hc
        refine Mid.ldE rfl rfl (hgd) rfl ?_
        skip
        refine Mid.call (least_ok H b (D.getD i 0)) rfl rfl rfl rfl ?_
        refine fM rfl ?_
        refine aL rfl rfl rfl rfl rfl ?_
        refine fM rfl ?_
        exact rWeak 3 rfl (ih (least b (D.getD i 0)) (by rw [hinv]; simp only [foldD, hc', if_true])) rfl rfl rfl
      · refine fR rfl ?_
        refine aL rfl rfl rfl rfl rfl ?_
        refine fM rfl ?_
        have hc' : ¬ x.field = f := by simpa using hc
        exact rWeak 3 rfl (ih b (by rw [hinv]; simp only [foldD, hc', if_false])) rfl rfl rfl

theorem tgreat_ok (H : Pr P) (hT : TOk n js ks sp D A) (l : List Str) (hl : l.length ≤ 100000) : FnOk P 46 [.ptr 0 0, .t (.lst (l.map sE))] ⟨tSto n js ks sp D A, 3⟩ { v := .t (.int .i64 (tgreat n js D A l 0)), rd := true } := by
  refine FnOk.run H.i46 H.mixed rfl rfl ?_
  refine fR rfl ?_
  refine rList l (fun i (b : Int) => { env := [(0, .ptr 0 0), (1, .t (.lst (l.map sE))), (5, .t (.int .i64 b)), (6, .t (.int .i64 i))], s := ⟨tSto n js ks sp D A, 3⟩ }) (fun r i b => tgreat n js D A l 0 = tgreat n js D A r b) 3 0 rfl rfl rfl rfl rfl ?_ ?_
  · intro b hinv
    refine fR rfl ?_
    refine lM rfl rfl rfl ?_
    refine fM rfl ?_
    refine Run.condF rfl rfl (by simp) ?_
    refine fR rfl ?_
    refine Run.fin rfl (EndOk.sameX rfl rfl rfl (by first | exact rfl | exact nSto_bd | exact tSto_bd) (.t ((by rw [hinv]; rfl))))
  · intro i x r b h1 hi hd hinv ih
    refine fR rfl ?_
    refine lM rfl rfl rfl ?_
    refine fM rfl ?_
    refine Run.condT rfl rfl (by simp; omega) ?_
    refine fR rfl ?_
    refine Mid.elemMap rfl rfl rfl h1 rfl rfl ?_
    refine fM rfl ?_
    refine Mid.callS (tlevel_ok H hT x) rfl rfl (by first | exact rfl | exact nSto_bd | exact tSto_bd) rfl ?_
    refine fM rfl ?_
    refine Run.cond rfl rfl (fun h0 => ?_) (fun h0 => ?_)
    · refine fR rfl ?_
      have h0' : tlevel n js D A x = 0 := by simpa using h0
      refine Run.fin rfl (EndOk.sameX rfl rfl rfl (by first | exact rfl | exact nSto_bd | exact tSto_bd) (.t ((by rw [hinv]; simp [tgreat, h0']))))
    · refine fR rfl ?_
      refine aL rfl rfl rfl rfl rfl ?_
      refine fM rfl ?_
      have h0' : ¬ tlevel n js D A x = 0 := by simpa using h0
      exact rWeak 3 rfl (ih (if tlevel n js D A x > b then tlevel n js D A x else b) (by rw [hinv]; simp only [tgreat, h0', if_false])) rfl rfl rfl

theorem tkey_ok (H : Pr P) (hT : TOk n js ks sp D A) (g : Int) : FnOk P 45 [.ptr 0 0, .t (.int .i64 g)] ⟨tSto n js ks sp D A, 3⟩ { v := .t (.int .i64 (tkey n js D A g ks 0)), rd := true } := by
  have h2 := hT.ksL
  refine FnOk.run H.i45 H.mixed rfl rfl ?_
  refine fR rfl ?_
  refine rList ks (fun i (b : Int) => { env := [(0, .ptr 0 0), (1, .t (.int .i64 g)), (5, .t (.int .i64 b)), (6, .t (.int .i64 i))], s := ⟨tSto n js ks sp D A, 3⟩ }) (fun r i b => tkey n js D A g ks 0 = tkey n js D A g r b) 3 0 rfl rfl rfl rfl rfl ?_ ?_
  · intro b hinv
    refine fR rfl ?_
    refine lM rfl rfl rfl ?_
    refine fM rfl ?_
    refine Run.condF rfl rfl (by simp) ?_
    refine fR rfl ?_
    refine Run.fin rfl (EndOk.sameX rfl rfl rfl (by first | exact rfl | exact nSto_bd | exact tSto_bd) (.t ((by rw [hinv]; rfl))))
  · intro i x r b h1 hi hd hinv ih
    refine fR rfl ?_
    refine lM rfl rfl rfl ?_
    refine fM rfl ?_
    refine Run.condT rfl rfl (by simp; omega) ?_
    refine fR rfl ?_
    refine Mid.elemMap rfl rfl rfl h1 rfl rfl ?_
    refine fM rfl ?_
    refine Run.cond rfl rfl (fun hg => ?_) (fun hg => ?_)
    · refine fR rfl ?_
      have hg' : x.graph = g := by simpa using hg
      refine Mid.elemMap rfl rfl rfl h1 rfl rfl ?_
      refine fM rfl ?_
      refine Mid.callS (tgreat_ok H hT x.fields (hT.ksO x (List.mem_of_getElem? h1))) rfl rfl (by first | exact rfl | exact nSto_bd | exact tSto_bd) rfl ?_
      skip
      refine Mid.call (least_ok H b (tgreat n js D A x.fields 0)) rfl rfl rfl rfl ?_
      refine fM rfl ?_
      refine aL rfl rfl rfl rfl rfl ?_
      refine fM rfl ?_
      exact rWeak 3 rfl (ih (least b (tgreat n js D A x.fields 0)) (by rw [hinv]; simp only [tkey, hg', if_true])) rfl rfl rfl
    · refine fR rfl ?_
      refine aL rfl rfl rfl rfl rfl ?_
      refine fM rfl ?_
      have hg' : ¬ x.graph = g := by simpa using hg
      exact rWeak 3 rfl (ih b (by rw [hinv]; simp only [tkey, hg', if_false])) rfl rfl rfl
end
end Go.GB.C26

/-
  R26I: contracts of chapter 26's functions: the reference's graph, join.
-/
namespace Go.GB.C26
open Go.GB
set_option linter.unusedSimpArgs false
set_option linter.unusedVariables false
set_option maxRecDepth 100000
set_option maxHeartbeats 1000000
variable {P : Program}

def tspot (g : Int) : List Spot → Int → Int
  | [], b => b
  | x :: r, b => tspot g r (if x.graph = g then least b x.depth else b)
def tgraph (n : Nat) (js : List Join) (ks : List KeyO) (sp : List Spot) (D A : List Int) (g : Int) : Int :=
  if tkey n js D A g ks 0 > 0 then least (tspot g sp 0) (IntKind.i64.wrap (1 + tkey n js D A g ks 0)) else tspot g sp 0
def tprov (j : Join) : List Spot → Int → Int
  | [], b => b
  | x :: r, b => tprov j r (if (x.graph == j.graph && decide (j.field ∈ x.prov)) = true then least b x.depth else b)
def tjoin (n : Nat) (js : List Join) (ks : List KeyO) (sp : List Spot) (D A : List Int) (j : Join) : Int :=
  if j.ext = true then tprov j sp 0
  else if j.req.length = 0 then tgraph n js ks sp D A j.graph
  else if (tkey n js D A j.graph ks 0 == 0 || tgreat n js D A j.req 0 == 0) = true then 0
  else IntKind.i64.wrap (1 + (if tgreat n js D A j.req 0 > tkey n js D A j.graph ks 0 then tgreat n js D A j.req 0 else tkey n js D A j.graph ks 0))

section
variable {n : Nat} {js : List Join} {ks : List KeyO} {sp : List Spot} {D A : List Int}

theorem tgraph_ok (H : Pr P) (hT : TOk n js ks sp D A) (g : Int) : FnOk P 38 [.ptr 0 0, .t (.int .i64 g)] ⟨tSto n js ks sp D A, 3⟩ { v := .t (.int .i64 (tgraph n js ks sp D A g)), rd := true } := by
  have h2 := hT.spL
  refine FnOk.run H.i38 H.mixed rfl rfl ?_
  refine fR rfl ?_
  refine rList sp (fun i (b : Int) => { env := [(0, .ptr 0 0), (1, .t (.int .i64 g)), (5, .t (.int .i64 b)), (6, .t (.int .i64 i))], s := ⟨tSto n js ks sp D A, 3⟩ }) (fun r i b => tspot g sp 0 = tspot g r b) 3 0 rfl rfl rfl rfl rfl ?_ ?_
  · intro b hinv
    have hinv' : tspot g sp 0 = b := by rw [hinv]; rfl
    refine fR rfl ?_
    refine lM rfl rfl rfl ?_
    refine fM rfl ?_
    refine Run.condF rfl rfl (by simp) ?_
    refine fR rfl ?_
    refine Mid.callS (tkey_ok H hT g) rfl rfl (by first | exact rfl | exact nSto_bd | exact tSto_bd) rfl ?_
    refine fM rfl ?_
    refine Run.cond rfl rfl (fun hk => ?_) (fun hk => ?_)
    · refine fR rfl ?_
      have hk' : tkey n js D A g ks 0 > 0 := by simpa using hk
      refine Mid.callS (tkey_ok H hT g) rfl rfl (by first | exact rfl | exact nSto_bd | exact tSto_bd) rfl ?_
      refine p0 rfl ?_
      refine Mid.call (least_ok H b (IntKind.i64.wrap (1 + tkey n js D A g ks 0))) rfl rfl rfl rfl ?_
      refine fM rfl ?_
      refine Run.fin rfl (EndOk.sameX rfl rfl rfl (by first | exact rfl | exact nSto_bd | exact tSto_bd) (.t ((by simp only [tgraph, hk', if_true, hinv']))))
    · refine fR rfl ?_
      have hk' : ¬ tkey n js D A g ks 0 > 0 := by simpa using hk
      refine Run.fin rfl (EndOk.sameX rfl rfl rfl (by first | exact rfl | exact nSto_bd | exact tSto_bd) (.t ((by simp only [tgraph, hk', if_false, hinv']))))
  · intro i x r b h1 hi hd hinv ih
    refine fR rfl ?_
    refine lM rfl rfl rfl ?_
    refine fM rfl ?_
    refine Run.condT rfl rfl (by simp; omega) ?_
    refine fR rfl ?_
    refine Mid.elemMap rfl rfl rfl h1 rfl rfl ?_
    refine fM rfl ?_
    refine Run.cond rfl rfl (fun hg => ?_) (fun hg => ?_)
    · refine fR rfl ?_
      have hg' : x.graph = g := by simpa using hg
      refine Mid.elemMap rfl rfl rfl h1 rfl rfl ?_
      refine fM rfl ?_
      refine Mid.call (least_ok H b x.depth) rfl rfl rfl rfl ?_
      refine fM rfl ?_
      refine aL rfl rfl rfl rfl rfl ?_
      refine fM rfl ?_
      exact rWeak 3 rfl (ih (least b x.depth) (by rw [hinv]; simp only [tspot, hg', if_true])) rfl rfl rfl
    · refine fR rfl ?_
      refine aL rfl rfl rfl rfl rfl ?_
      refine fM rfl ?_
      have hg' : ¬ x.graph = g := by simpa using hg
      exact rWeak 3 rfl (ih b (by rw [hinv]; simp only [tspot, hg', if_false])) rfl rfl rfl

theorem tjoin_ok (H : Pr P) (hT : TOk n js ks sp D A) (j : Join) (hq : j.req.length ≤ 100000) : FnOk P 37 [.ptr 0 0, .agg [.t (.str j.ty), .t (.str j.field), .t (.int .i64 j.graph), .t (.bool j.ext), .t (.lst (j.req.map sE)), .t (.lst (j.prov.map sE))]] ⟨tSto n js ks sp D A, 3⟩ { v := .t (.int .i64 (tjoin n js ks sp D A j)), rd := true } := by
  have h2 := hT.spL
  refine FnOk.run H.i37 H.mixed rfl rfl ?_
  refine fR rfl ?_
  refine Run.cond rfl rfl (fun he => ?_) (fun he => ?_)
  · refine fR rfl ?_
    refine rList sp (fun i (b : Int) => { env := [(0, .ptr 0 0), (3, .ptr 3 0), (5, .t (.int .i64 b)), (6, .t (.int .i64 i))], s := ⟨tSto n js ks sp D A ++ [(3, .cells [.t (.str j.ty), .t (.str j.field), .t (.int .i64 j.graph), .t (.bool j.ext), .t (.lst (j.req.map sE)), .t (.lst (j.prov.map sE))])], 4⟩ }) (fun r i b => tjoin n js ks sp D A j = tprov j r b) 4 0 rfl (by simp [tjoin, he]) rfl rfl rfl ?_ ?_
    · intro b hinv
      refine fR rfl ?_
      refine lM rfl rfl rfl ?_
      refine fM rfl ?_
      refine Run.condF rfl rfl (by simp) ?_
      refine fR rfl ?_
      refine Run.fin rfl (EndOk.sameX rfl rfl rfl (by first | exact rfl | exact nSto_bd | exact tSto_bd) (.t ((by rw [hinv]; rfl))))
    · intro i x r b h1 hi hd hinv ih
      refine fR rfl ?_
      refine lM rfl rfl rfl ?_
      refine fM rfl ?_
      refine Run.condT rfl rfl (by simp; omega) ?_
      refine fR rfl ?_
      refine Mid.elemMap rfl rfl rfl h1 rfl rfl ?_
      refine fM rfl ?_
      refine elG rfl rfl rfl rfl h1 rfl rfl ?_
      refine fM rfl ?_
      refine caG rfl rfl (fun hg => ⟨_, rfl, has_ok H x.prov (hT.spO x (List.mem_of_getElem? h1)) j.field, rfl⟩) rfl rfl ?_
      refine fM rfl ?_
      refine Run.cond rfl rfl (fun hc => ?_) (fun hc => ?_)
      · refine fR rfl ?_
        refine Mid.elemMap rfl rfl rfl h1 rfl rfl ?_
        refine fM rfl ?_
        refine Mid.call (least_ok H b x.depth) rfl rfl rfl rfl ?_
        refine fM rfl ?_
        refine aL rfl rfl rfl rfl rfl ?_
        refine fM rfl ?_
        exact rWeak 4 rfl (ih (least b x.depth) (by rw [hinv]; simp only [tprov, hc, if_true])) rfl rfl rfl
      · refine fR rfl ?_
        refine aL rfl rfl rfl rfl rfl ?_
        refine fM rfl ?_
        exact rWeak 4 rfl (ih b (by rw [hinv]; simp only [tprov, hc]; simp)) rfl rfl rfl
  · refine fR rfl ?_
    refine lM rfl rfl rfl ?_
    refine fM rfl ?_
    refine Run.cond rfl rfl (fun hr => ?_) (fun hr => ?_)
    · refine fR rfl ?_
      have hr' : j.req.length = 0 := by simpa using hr
      refine Mid.callRd [0, 1, 2] (tgraph_ok H hT j.graph) rfl rfl rfl rfl tSto_bd (by repeat' (first | exact trivial | exact rfl | refine And.intro ?_ ?_ | exact (congrArg some (AObj.ren_mE _ _ _ _ _ _)).symm | exact (congrArg some (AObj.ren_cE _ _ _)).symm)) rfl ?_
      refine fM rfl ?_
      refine Run.fin rfl (EndOk.sameX rfl rfl rfl (by first | exact rfl | exact nSto_bd | exact tSto_bd) (.t ((by simp [tjoin, he, hr']))))
    · refine fR rfl ?_
      have hr' : ¬ j.req.length = 0 := by simpa using hr
      refine Mid.callRd [0, 1, 2] (tkey_ok H hT j.graph) rfl rfl rfl rfl tSto_bd (by repeat' (first | exact trivial | exact rfl | refine And.intro ?_ ?_ | exact (congrArg some (AObj.ren_mE _ _ _ _ _ _)).symm | exact (congrArg some (AObj.ren_cE _ _ _)).symm)) rfl ?_
      refine fM rfl ?_
      refine Mid.callRd [0, 1, 2] (tgreat_ok H hT j.req hq) rfl rfl rfl rfl tSto_bd (by repeat' (first | exact trivial | exact rfl | refine And.intro ?_ ?_ | exact (congrArg some (AObj.ren_mE _ _ _ _ _ _)).symm | exact (congrArg some (AObj.ren_cE _ _ _)).symm)) rfl ?_
      refine fM rfl ?_
      refine Run.cond rfl rfl (fun hz => ?_) (fun hz => ?_)
      · refine fR rfl ?_
        refine Run.fin rfl (EndOk.sameX rfl rfl rfl (by first | exact rfl | exact nSto_bd | exact tSto_bd) (.t ((by simp only [tjoin, he, hr', hz]; simp))))
      · refine fR rfl ?_
        refine p0 rfl ?_
        refine fM rfl ?_
        refine Run.fin rfl (EndOk.sameX rfl rfl rfl (by first | exact rfl | exact nSto_bd | exact tSto_bd) (.t ((by simp only [tjoin, he, hr', hz]; simp))))
end
end Go.GB.C26

/-
  R26J: contracts of chapter 26's functions: the reference's open.
-/
namespace Go.GB.C26
open Go.GB
set_option linter.unusedSimpArgs false
set_option linter.unusedVariables false
set_option maxRecDepth 100000
set_option maxHeartbeats 1000000
variable {P : Program}

def sameJ (y j : Join) : Bool := (y.ty == j.ty) && (y.field == j.field) && (y.graph == j.graph)
def firstJ (j : Join) : List Join → Bool → Bool
  | [], b => b
  | y :: r, b => firstJ j r (if sameJ y j = true then false else b)
def inR (n : Nat) (name : Str) (j : Join) (b : Bool) : Bool := (j.ty == name) && decide (j.graph ≥ 0) && decide (j.graph < n) && b
def joinsR (n : Nat) (name : Str) : List Join → List Join → List Join → List Join
  | _, [], acc => acc
  | pre, j :: r, acc => joinsR n name (pre ++ [j]) r (if inR n name j (firstJ j pre true) = true then acc ++ [j] else acc)
def spotsR (n : Nat) : List Spot → List Spot → List Spot
  | [], acc => acc
  | x :: r, acc => spotsR n r (if inb n x = true then acc ++ [x] else acc)

section
variable {s : Super} {name : Str} {here sp : List Spot} {js : List Join} {ks : List KeyO}

theorem open_ok (H : Pr P) (h1 : s.graphs.length ≤ 2000) (h2 : here.length ≤ 100000) (h3 : s.joins.length ≤ 100000) (h4 : s.keys.length ≤ 100000)
    (e1 : spotsR s.graphs.length here [] = sp) (e2 : joinsR s.graphs.length name [] s.joins [] = js) (e3 : keys0 s.graphs.length name s.keys [] = ks) (hl : js.length ≤ 100000) :
    FnOk P 34 [s.v, .t (.str name), .t (.lst (here.map Spot.enc))] ⟨[], 0⟩
    { v := .ptr 1 0, ob := [(1, .cells [.t (.int .i64 s.graphs.length), .t (.lst (js.map Join.enc)), .t (.lst (ks.map KeyO.enc)), .t (.lst (sp.map Spot.enc)), .slc 3 0 js.length 1, .slc 4 0 s.graphs.length 1]), (3, .cells (cE iE (List.replicate js.length 0))), (4, .cells (cE iE (List.replicate s.graphs.length 0)))], n := 5 } := by
  refine FnOk.run H.i34 H.mixed rfl rfl ?_
  refine fR rfl ?_
  refine lM rfl rfl rfl ?_
  refine fM rfl ?_
  refine rList s.joins (fun i (b : List Join) => { env := [(1, .t (.str name)), (2, .t (.lst (here.map Spot.enc))), (3, .ptr 0 0), (7, .ptr 1 0), (8, .t (.int .i64 i))], s := ⟨[(0, .cells [.t (.lst (s.graphs.map sE)), .t s.doc, .t (.lst (s.keys.map KeyO.enc)), .t (.lst (s.joins.map Join.enc))]), (1, .cells [.t (.int .i64 s.graphs.length), .own 2 6 (b.map Join.enc), .nils, .nils, .nils, .nils]), (2, .arr b.length)], 3⟩ }) (fun r i b => b.length ≤ i ∧ joinsR s.graphs.length name (s.joins.take i) r b = js) 2 [] rfl ⟨by simp, e2⟩ rfl rfl rfl ?_ ?_
  · rintro js' ⟨_, hinv⟩
    simp only [joinsR] at hinv
    subst hinv
    refine fR rfl ?_
    refine lM rfl rfl rfl ?_
    refine fM rfl ?_
    refine Run.condF rfl rfl (by simp) ?_
    refine fR rfl ?_
    refine rList s.keys (fun i (b : List KeyO) => { env := [(1, .t (.str name)), (2, .t (.lst (here.map Spot.enc))), (3, .ptr 0 0), (7, .ptr 1 0), (12, .t (.int .i64 i))], s := ⟨[(0, .cells [.t (.lst (s.graphs.map sE)), .t s.doc, .t (.lst (s.keys.map KeyO.enc)), .t (.lst (s.joins.map Join.enc))]), (1, .cells [.t (.int .i64 s.graphs.length), .t (.lst (js'.map Join.enc)), .own 2 3 (b.map KeyO.enc), .nils, .nils, .nils]), (2, .arr b.length)], 3⟩ }) (fun r i b => b.length ≤ i ∧ keys0 s.graphs.length name r b = ks) 2 [] rfl ⟨by simp, e3⟩ rfl rfl rfl ?_ ?_
    · rintro ks' ⟨_, hinv⟩
      simp only [keys0] at hinv
      subst hinv
      refine fR rfl ?_
      refine lM rfl rfl rfl ?_
      refine fM rfl ?_
      refine Run.condF rfl rfl (by simp) ?_
      refine fR rfl ?_
      refine rList here (fun i (b : List Spot) => { env := [(2, .t (.lst (here.map Spot.enc))), (7, .ptr 1 0), (14, .t (.int .i64 i))], s := ⟨[(1, .cells [.t (.int .i64 s.graphs.length), .t (.lst (js'.map Join.enc)), .t (.lst (ks'.map KeyO.enc)), .own 2 3 (b.map Spot.enc), .nils, .nils]), (2, .arr b.length)], 3⟩ }) (fun r i b => b.length ≤ i ∧ spotsR s.graphs.length r b = sp) 2 [] rfl ⟨by simp, e1⟩ rfl rfl rfl ?_ ?_
      · rintro sp' ⟨_, hinv⟩
        simp only [spotsR] at hinv
        subst hinv
        refine fR rfl ?_
        refine lM rfl rfl rfl ?_
        refine fM rfl ?_
        refine Run.condF rfl rfl (by simp) ?_
        refine fR rfl ?_
        refine lM rfl rfl rfl ?_
        refine Mid.makeE [0] rfl (by omega) (by omega) rfl rfl rfl ?_
        refine fM rfl ?_
        refine Mid.makeE [0] rfl (by omega) (by omega) rfl rfl rfl ?_
        refine fM rfl ?_
        refine Run.fin rfl (EndOk.chg rfl rfl ?_ ?_)
        · exact .le (.same rfl)
        · exact (by repeat' (first | exact trivial | exact LeX.t | exact LeX.top | exact LeX.nilOwn (Nat.le_of_ble_eq_true rfl) (Nat.le_of_ble_eq_true rfl) | exact LeX.ownT | exact LeX.nilT | exact LeX.same rfl | exact LeX.tEq (by simp) | exact LeX.ownEq (by simp) (Nat.le_of_ble_eq_true rfl) | exact LeX.tEq (by congr 1 <;> omega) | exact Or.inr ⟨Nat.le_of_ble_eq_true rfl, Nat.le_of_ble_eq_true rfl, rfl⟩ | refine Or.inl ⟨Nat.le_of_ble_eq_true rfl, _, rfl, ?_⟩ | refine LeO.cells ?_ | exact LeO.arr rfl | exact LeO.arr (by simp) | exact LeO.mE (by first | rfl | simp) (by first | exact Or.inl rfl | exact Or.inr rfl) | exact LeO.cE (by first | rfl | simp) | exact LeXs.cE (by first | rfl | simp) | refine LeO.map (by first | rfl | simp) ?_ (by first | exact Or.inl rfl | exact Or.inr rfl) | refine LeXs.cons ?_ ?_ | exact LeXs.nil | refine And.intro ?_ ?_))
      · rintro i x r b hi1 hi hd ⟨hl, hinv⟩ ih
        refine fR rfl ?_
        refine lM rfl rfl rfl ?_
        refine fM rfl ?_
        refine Run.condT rfl rfl (by simp; omega) ?_
        refine fR rfl ?_
        refine Mid.elemMap rfl rfl rfl hi1 rfl rfl ?_
        refine fM rfl ?_
        refine Run.cond rfl rfl (fun hc => ?_) (fun hc => ?_)
        · have hc2 : inb s.graphs.length x = true := hc
          refine fR rfl ?_
          refine apM Spot.enc b [x] rfl rfl rfl rfl rfl ?_
          refine fM rfl ?_
          refine aL rfl rfl rfl rfl rfl ?_
          refine fM rfl ?_
          exact rWeak 3 rfl (ih (b ++ [x]) ⟨by simp; omega, by rw [← hinv]; simp only [spotsR, hc2, if_true]⟩) rfl rfl rfl
        · refine fR rfl ?_
          refine aL rfl rfl rfl rfl rfl ?_
          refine fM rfl ?_
          have hc2 : inb s.graphs.length x = false := hc
          exact rWeak 3 rfl (ih b ⟨by omega, by rw [← hinv]; simp [spotsR, hc2]⟩) rfl rfl rfl
    · rintro i x r b hi1 hi hd ⟨hl, hinv⟩ ih
      refine fR rfl ?_
      refine lM rfl rfl rfl ?_
      refine fM rfl ?_
      refine Run.condT rfl rfl (by simp; omega) ?_
      refine fR rfl ?_
      refine Mid.elemMap rfl rfl rfl hi1 rfl rfl ?_
      refine fM rfl ?_
      refine Run.cond rfl rfl (fun hc => ?_) (fun hc => ?_)
      · have hc2 : ink s.graphs.length name x = true := hc
        refine fR rfl ?_
        refine apM KeyO.enc b [x] rfl rfl rfl rfl rfl ?_
        refine fM rfl ?_
        refine aL rfl rfl rfl rfl rfl ?_
        refine fM rfl ?_
        exact rWeak 3 rfl (ih (b ++ [x]) ⟨by simp; omega, by rw [← hinv]; simp only [keys0, hc2, if_true]⟩) rfl rfl rfl
      · refine fR rfl ?_
        refine aL rfl rfl rfl rfl rfl ?_
        refine fM rfl ?_
        have hc2 : ink s.graphs.length name x = false := hc
        exact rWeak 3 rfl (ih b ⟨by omega, by rw [← hinv]; simp [keys0, hc2]⟩) rfl rfl rfl
  · rintro i x r b hi1 hi hd ⟨hl, hinv⟩ ih
    have htk : s.joins.take (i + 1) = s.joins.take i ++ [x] := by rw [List.take_add_one, hi1]; rfl
    have hlen : (s.joins.take i).length = i := by simp; omega
    refine fR rfl ?_
    refine lM rfl rfl rfl ?_
    refine fM rfl ?_
    refine Run.condT rfl rfl (by simp; omega) ?_
    refine fR rfl ?_
    refine Mid.elemMap rfl rfl rfl hi1 rfl rfl ?_
    refine fM rfl ?_
    refine rList (s.joins.take i) (fun k (f : Bool) => { env := [(1, .t (.str name)), (2, .t (.lst (here.map Spot.enc))), (3, .ptr 0 0), (7, .ptr 1 0), (8, .t (.int .i64 i)), (9, .ptr 3 0), (10, .t (.bool f)), (11, .t (.int .i64 k))], s := ⟨[(0, .cells [.t (.lst (s.graphs.map sE)), .t s.doc, .t (.lst (s.keys.map KeyO.enc)), .t (.lst (s.joins.map Join.enc))]), (1, .cells [.t (.int .i64 s.graphs.length), .own 2 6 (b.map Join.enc), .nils, .nils, .nils, .nils]), (2, .arr b.length), (3, .cells [.t (.str x.ty), .t (.str x.field), .t (.int .i64 x.graph), .t (.bool x.ext), .t (.lst (x.req.map sE)), .t (.lst (x.prov.map sE))])], 4⟩ }) (fun r k f => firstJ x (s.joins.take i) true = firstJ x r f) 4 true rfl rfl rfl rfl rfl ?_ ?_
    · intro f hf
      have hf' : firstJ x (s.joins.take i) true = f := by rw [hf]; rfl
      refine fR rfl ?_
      refine Run.condF rfl rfl (by simp; omega) ?_
      refine fR rfl ?_
      refine Run.cond rfl rfl (fun hc => ?_) (fun hc => ?_)
      · have hc2 : inR s.graphs.length name x (firstJ x (s.joins.take i) true) = true := by rw [hf']; exact hc
        refine fR rfl ?_
        refine apM Join.enc b [x] rfl rfl rfl rfl rfl ?_
        refine fM rfl ?_
        refine aL rfl rfl rfl rfl rfl ?_
        refine fM rfl ?_
        exact rWeak 3 rfl (ih (b ++ [x]) ⟨by simp; omega, by rw [← hinv, htk]; simp only [joinsR, hc2, if_true]⟩) rfl rfl rfl
      · refine fR rfl ?_
        refine aL rfl rfl rfl rfl rfl ?_
        refine fM rfl ?_
        have hc2 : inR s.graphs.length name x (firstJ x (s.joins.take i) true) = false := by rw [hf']; exact hc
        exact rWeak 3 rfl (ih b ⟨by omega, by rw [← hinv, htk]; simp only [joinsR, hc2]; simp⟩) rfl rfl rfl
    · intro k y r' f hk1 hk hkd hf ihk
      have hk2 : s.joins[k]? = some y := by rw [List.getElem?_take] at hk1; split at hk1 <;> simp_all
      refine fR rfl ?_
      refine Run.condT rfl rfl (by simp; omega) ?_
      refine fR rfl ?_
      refine Mid.elemMap rfl rfl rfl hk2 rfl rfl ?_
      refine fM rfl ?_
      refine elG rfl rfl rfl rfl hk2 rfl rfl ?_
      refine fM rfl ?_
      refine elG rfl rfl rfl rfl hk2 rfl rfl ?_
      refine fM rfl ?_
      refine Run.cond rfl rfl (fun hc => ?_) (fun hc => ?_)
      · refine fR rfl ?_
        refine aL rfl rfl rfl rfl rfl ?_
        refine fM rfl ?_
        have hc2 : sameJ y x = true := hc
        exact rWeak 4 rfl (ihk false (by rw [hf]; simp only [firstJ, hc2, if_true])) rfl rfl rfl
      · refine fR rfl ?_
        refine aL rfl rfl rfl rfl rfl ?_
        refine fM rfl ?_
        have hc2 : sameJ y x = false := hc
        exact rWeak 4 rfl (ihk f (by rw [hf]; simp only [firstJ, hc2]; simp)) rfl rfl rfl
end
end Go.GB.C26

/-
  R26K: contracts of chapter 26's functions: the reference's fill.
-/
namespace Go.GB.C26
open Go.GB
set_option linter.unusedSimpArgs false
set_option linter.unusedVariables false
set_option maxRecDepth 100000
set_option maxHeartbeats 1000000
variable {P : Program}

def dR (n : Nat) (js : List Join) (ks : List KeyO) (sp : List Spot) (A : List Int) : Nat → List Join → List Int → Bool → List Int × Bool
  | _, [], D, ch => (D, ch)
  | i, j :: r, D, ch => if tjoin n js ks sp D A j ≠ D.getD i 0 then dR n js ks sp A (i + 1) r (D.set i (tjoin n js ks sp D A j)) true else dR n js ks sp A (i + 1) r D ch
def aR (n : Nat) (js : List Join) (ks : List KeyO) (sp : List Spot) (D : List Int) : Nat → Nat → List Int → Bool → List Int × Bool
  | _, 0, A, ch => (A, ch)
  | i, c + 1, A, ch => if tgraph n js ks sp D A i ≠ A.getD i 0 then aR n js ks sp D (i + 1) c (A.set i (tgraph n js ks sp D A i)) true else aR n js ks sp D (i + 1) c A ch
def tround (n : Nat) (js : List Join) (ks : List KeyO) (sp : List Spot) (D A : List Int) : List Int × List Int × Bool :=
  ((dR n js ks sp A 0 js D false).1, (aR n js ks sp (dR n js ks sp A 0 js D false).1 0 n A (dR n js ks sp A 0 js D false).2).1, (aR n js ks sp (dR n js ks sp A 0 js D false).1 0 n A (dR n js ks sp A 0 js D false).2).2)
def iterT (n : Nat) (js : List Join) (ks : List KeyO) (sp : List Spot) : Nat → List Int → List Int → List Int × List Int
  | 0, D, A => (D, A)
  | f + 1, D, A => if (tround n js ks sp D A).2.2 = true then iterT n js ks sp f (tround n js ks sp D A).1 (tround n js ks sp D A).2.1 else ((tround n js ks sp D A).1, (tround n js ks sp D A).2.1)
def stopsT (n : Nat) (js : List Join) (ks : List KeyO) (sp : List Spot) : Nat → List Int → List Int → Prop
  | 0, _, _ => False
  | f + 1, D, A => (tround n js ks sp D A).2.2 = true → stopsT n js ks sp f (tround n js ks sp D A).1 (tround n js ks sp D A).2.1

structure Fil (s : Super) (name : Str) (here sp : List Spot) (js : List Join) (ks : List KeyO) (D1 A1 : List Int) : Prop where
  h1 : s.graphs.length ≤ 2000
  h2 : here.length ≤ 100000
  h3 : s.joins.length ≤ 100000
  h4 : s.keys.length ≤ 100000
  e1 : spotsR s.graphs.length here [] = sp
  e2 : joinsR s.graphs.length name [] s.joins [] = js
  e3 : keys0 s.graphs.length name s.keys [] = ks
  hT : ∀ D A, D.length = js.length → A.length = s.graphs.length → TOk s.graphs.length js ks sp D A
  hD1 : D1.length = js.length
  hA1 : A1.length = s.graphs.length
  ex : ∃ fuel, stopsT s.graphs.length js ks sp fuel (List.replicate js.length 0) (List.replicate s.graphs.length 0) ∧ iterT s.graphs.length js ks sp fuel (List.replicate js.length 0) (List.replicate s.graphs.length 0) = (D1, A1)

def tC (s : Super) (sp : List Spot) (js : List Join) (ks : List KeyO) : List V :=
  [.t (.int .i64 s.graphs.length), .t (.lst (js.map Join.enc)), .t (.lst (ks.map KeyO.enc)), .t (.lst (sp.map Spot.enc)), .slc 4 0 js.length 1, .slc 5 0 s.graphs.length 1]

section
variable {s : Super} {name : Str} {here sp : List Spot} {js : List Join} {ks : List KeyO} {D1 A1 : List Int}

theorem fill_ok (H : Pr P) (h : Fil s name here sp js ks D1 A1) : FnOk P 27 [s.v, .t (.str name), .t (.lst (here.map Spot.enc))] ⟨[], 0⟩
    { v := .ptr 2 0, ob := [(2, .cells (tC s sp js ks)), (4, .cells (cE iE D1)), (5, .cells (cE iE A1))], n := 6 } := by
  obtain ⟨fuel, g1, g2⟩ := h.ex
  have hjl := (h.hT (List.replicate js.length 0) (List.replicate s.graphs.length 0) (by simp) (by simp)).jsL
  have hjO := (h.hT (List.replicate js.length 0) (List.replicate s.graphs.length 0) (by simp) (by simp)).jsO
  have hgl := h.h1
  refine FnOk.run H.i27 H.mixed rfl rfl ?_
  refine fR rfl ?_
  refine Mid.callR [] (open_ok H h.h1 h.h2 h.h3 h.h4 h.e1 h.e2 h.e3 hjl) rfl rfl rfl rfl rfl (by repeat' (first | exact trivial | exact rfl | refine And.intro ?_ ?_ | exact (congrArg some (AObj.ren_mE _ _ _ _ _ _)).symm | exact (congrArg some (AObj.ren_cE _ _ _)).symm)) rfl rfl (ob' := [(2, .cells (tC s sp js ks)), (4, .cells (cE iE (List.replicate js.length 0))), (5, .cells (cE iE (List.replicate s.graphs.length 0)))]) ((by simp only [renOb, AObj.ren_mE, AObj.ren_cE]; rfl)) rfl rfl ?_
  refine fM rfl ?_
  refine rLoopM (β := Nat × List Int × List Int × Bool) (fun b => { env := [(7, .ptr 2 0), (8, .t (.bool b.2.2.2))], s := ⟨[(2, .cells (tC s sp js ks)), (4, .cells (cE iE b.2.1)), (5, .cells (cE iE b.2.2.1))], 6⟩ })
    (fun b => b.2.1.length = js.length ∧ b.2.2.1.length = s.graphs.length ∧ (b.2.2.2 = true → stopsT s.graphs.length js ks sp b.1 b.2.1 b.2.2.1 ∧ iterT s.graphs.length js ks sp b.1 b.2.1 b.2.2.1 = (D1, A1)) ∧ (b.2.2.2 = false → (b.2.1, b.2.2.1) = (D1, A1))) (fun b => b.1) 6 (fuel, List.replicate js.length 0, List.replicate s.graphs.length 0, true) rfl ⟨by simp, by simp, fun _ => ⟨g1, g2⟩, fun h => by cases h⟩ rfl rfl rfl ?_ (he := (by repeat' (first | exact trivial | exact LeX.t | exact LeX.top | exact LeX.nilOwn (Nat.le_of_ble_eq_true rfl) (Nat.le_of_ble_eq_true rfl) | exact LeX.ownT | exact LeX.nilT | exact LeX.same rfl | exact LeX.tEq (by simp) | exact LeX.ownEq (by simp) (Nat.le_of_ble_eq_true rfl) | exact LeX.tEq (by congr 1 <;> omega) | exact Or.inr ⟨Nat.le_of_ble_eq_true rfl, Nat.le_of_ble_eq_true rfl, rfl⟩ | refine Or.inl ⟨Nat.le_of_ble_eq_true rfl, _, rfl, ?_⟩ | refine LeO.cells ?_ | exact LeO.arr rfl | exact LeO.arr (by simp) | exact LeO.mE (by first | rfl | simp) (by first | exact Or.inl rfl | exact Or.inr rfl) | exact LeO.cE (by first | rfl | simp) | exact LeXs.cE (by first | rfl | simp) | refine LeO.map (by first | rfl | simp) ?_ (by first | exact Or.inl rfl | exact Or.inr rfl) | refine LeXs.cons ?_ ?_ | exact LeXs.nil | refine And.intro ?_ ?_))) (hs := (by repeat' (first | exact trivial | exact LeX.t | exact LeX.top | exact LeX.nilOwn (Nat.le_of_ble_eq_true rfl) (Nat.le_of_ble_eq_true rfl) | exact LeX.ownT | exact LeX.nilT | exact LeX.same rfl | exact LeX.tEq (by simp) | exact LeX.ownEq (by simp) (Nat.le_of_ble_eq_true rfl) | exact LeX.tEq (by congr 1 <;> omega) | exact Or.inr ⟨Nat.le_of_ble_eq_true rfl, Nat.le_of_ble_eq_true rfl, rfl⟩ | refine Or.inl ⟨Nat.le_of_ble_eq_true rfl, _, rfl, ?_⟩ | refine LeO.cells ?_ | exact LeO.arr rfl | exact LeO.arr (by simp) | exact LeO.mE (by first | rfl | simp) (by first | exact Or.inl rfl | exact Or.inr rfl) | exact LeO.cE (by first | rfl | simp) | exact LeXs.cE (by first | rfl | simp) | refine LeO.map (by first | rfl | simp) ?_ (by first | exact Or.inl rfl | exact Or.inr rfl) | refine LeXs.cons ?_ ?_ | exact LeXs.nil | refine And.intro ?_ ?_)))
  rintro ⟨f, D, A, ch⟩ ⟨hD, hA, hs1, hs2⟩ ih
  simp only at hD hA hs1 hs2
  cases ch with
  | false =>
    have := hs2 rfl
    cases this
    refine fR rfl ?_
    refine Run.condF rfl rfl rfl ?_
    refine fR rfl ?_
    refine Run.fin rfl (EndOk.chg rfl rfl ?_ ?_)
    · exact .le (.same rfl)
    · exact (by repeat' (first | exact trivial | exact LeX.t | exact LeX.top | exact LeX.nilOwn (Nat.le_of_ble_eq_true rfl) (Nat.le_of_ble_eq_true rfl) | exact LeX.ownT | exact LeX.nilT | exact LeX.same rfl | exact LeX.tEq (by simp) | exact LeX.ownEq (by simp) (Nat.le_of_ble_eq_true rfl) | exact LeX.tEq (by congr 1 <;> omega) | exact Or.inr ⟨Nat.le_of_ble_eq_true rfl, Nat.le_of_ble_eq_true rfl, rfl⟩ | refine Or.inl ⟨Nat.le_of_ble_eq_true rfl, _, rfl, ?_⟩ | refine LeO.cells ?_ | exact LeO.arr rfl | exact LeO.arr (by simp) | exact LeO.mE (by first | rfl | simp) (by first | exact Or.inl rfl | exact Or.inr rfl) | exact LeO.cE (by first | rfl | simp) | exact LeXs.cE (by first | rfl | simp) | refine LeO.map (by first | rfl | simp) ?_ (by first | exact Or.inl rfl | exact Or.inr rfl) | refine LeXs.cons ?_ ?_ | exact LeXs.nil | refine And.intro ?_ ?_))
  | true =>
    obtain ⟨hs3, hs4⟩ := hs1 rfl
    refine fR rfl ?_
    refine Run.condT rfl rfl rfl ?_
    refine fR rfl ?_
    refine rList js (fun i (b : List Int × Bool) => { env := [(7, .ptr 2 0), (8, .t (.bool b.2)), (9, .t (.int .i64 i))], s := ⟨[(2, .cells (tC s sp js ks)), (4, .cells (cE iE b.1)), (5, .cells (cE iE A))], 6⟩ }) (fun r i b => b.1.length = js.length ∧ dR s.graphs.length js ks sp A 0 js D false = dR s.graphs.length js ks sp A i r b.1 b.2) 6 (D, false) rfl ⟨hD, rfl⟩ rfl rfl rfl ?_ ?_
    · rintro ⟨D', c1⟩ ⟨hD', hinv⟩
      simp only at hD'
      have k1 : dR s.graphs.length js ks sp A 0 js D false = (D', c1) := by rw [hinv]; rfl
      refine fR rfl ?_
      refine lM rfl rfl rfl ?_
      refine fM rfl ?_
      refine Run.condF rfl rfl (by simp) ?_
      refine fR rfl ?_
      refine rList (List.range s.graphs.length) (fun i (b : List Int × Bool) => { env := [(7, .ptr 2 0), (8, .t (.bool b.2)), (11, .t (.int .i64 i))], s := ⟨[(2, .cells (tC s sp js ks)), (4, .cells (cE iE D')), (5, .cells (cE iE b.1))], 6⟩ }) (fun r i b => b.1.length = s.graphs.length ∧ aR s.graphs.length js ks sp D' 0 s.graphs.length A c1 = aR s.graphs.length js ks sp D' i r.length b.1 b.2) 6 (A, c1) rfl ⟨hA, by simp⟩ rfl rfl rfl ?_ ?_
      · rintro ⟨A', c2⟩ ⟨hA', hinv'⟩
        simp only at hA'
        have k2 : aR s.graphs.length js ks sp D' 0 s.graphs.length A c1 = (A', c2) := by rw [hinv']; rfl
        have k3 : tround s.graphs.length js ks sp D A = (D', A', c2) := by simp only [tround, k1, k2]
        refine fR rfl ?_
        refine Run.condF rfl rfl (by simp) ?_
        skip
        cases f with
        | zero => exact hs3.elim
        | succ f =>
          simp only [stopsT, k3] at hs3
          simp only [iterT, k3] at hs4
          exact rWeak 6 rfl (ih (f, D', A', c2) (by simp) ⟨hD', hA', fun e => ⟨hs3 e, by rw [if_pos e] at hs4; exact hs4⟩, fun e => by simp only at e; rw [e] at hs4; simpa using hs4⟩) rfl rfl rfl
      · rintro i x r ⟨A', c2⟩ hi1 hi hd ⟨hA', hinv'⟩ ih2
        simp only [List.length_range] at hi
        simp only at hA'
        have hgd : A'[0 + i * 1]? = some (A'.getD i 0) := by
          have e : 0 + i * 1 = i := by omega
          rw [e, List.getD_eq_getElem?_getD, List.getElem?_eq_getElem (by omega)]; rfl
        refine fR rfl ?_
        refine Run.condT rfl rfl (by simp; omega) ?_
        refine fR rfl ?_
        refine Mid.callRd [2, 4, 5] (tgraph_ok H (h.hT D' A' hD' hA') (i : Int)) rfl rfl rfl rfl tSto_bd (by repeat' (first | exact trivial | exact rfl | refine And.intro ?_ ?_ | exact (congrArg some (AObj.ren_mE _ _ _ _ _ _)).symm | exact (congrArg some (AObj.ren_cE _ _ _)).symm)) rfl ?_
        refine fM rfl ?_
        refine Mid.iaS rfl rfl (by omega) rfl ?_
        refine Mid.ldE rfl rfl (hgd) rfl ?_
        refine fM rfl ?_
        refine Run.cond rfl rfl (fun hc => ?_) (fun hc => ?_)
        · have hc2 : tgraph s.graphs.length js ks sp D' A' i ≠ A'.getD i 0 := by simpa [iE] using hc
          refine fR rfl ?_
          refine Mid.iaS rfl rfl (by omega) rfl ?_
          refine Mid.stE rfl rfl ((by show 0 + i * 1 < A'.length; omega)) rfl rfl ?_
          refine fM rfl ?_
          refine aL rfl rfl rfl rfl rfl ?_
          refine fM rfl ?_
          exact rWeak 6 rfl (ih2 (A'.set i (tgraph s.graphs.length js ks sp D' A' i), true) ⟨by simp [hA'], by rw [hinv']; simp only [List.length_cons, aR]; rw [if_pos hc2]⟩) rfl rfl rfl
        · have hc2 : tgraph s.graphs.length js ks sp D' A' i = A'.getD i 0 := by simpa [iE] using hc
          refine fR rfl ?_
          refine aL rfl rfl rfl rfl rfl ?_
          refine fM rfl ?_
          exact rWeak 6 rfl (ih2 (A', c2) ⟨hA', by rw [hinv']; simp only [List.length_cons, aR]; rw [if_neg (fun e => e hc2)]⟩) rfl rfl rfl
    · rintro i x r ⟨D', c1⟩ hi1 hi hd ⟨hD', hinv⟩ ih2
      simp only at hD'
      have hgd : D'[0 + i * 1]? = some (D'.getD i 0) := by
        have e : 0 + i * 1 = i := by omega
        rw [e, List.getD_eq_getElem?_getD, List.getElem?_eq_getElem (by omega)]; rfl
      refine fR rfl ?_
      refine lM rfl rfl rfl ?_
      refine fM rfl ?_
      refine Run.condT rfl rfl (by simp; omega) ?_
      refine fR rfl ?_
      refine Mid.elemMap rfl rfl rfl hi1 rfl rfl ?_
      refine fM rfl ?_
      refine Mid.callRd [2, 4, 5] (tjoin_ok H (h.hT D' A hD' hA) x (hjO x (List.mem_of_getElem? hi1)).2.1) rfl rfl rfl rfl tSto_bd (by repeat' (first | exact trivial | exact rfl | refine And.intro ?_ ?_ | exact (congrArg some (AObj.ren_mE _ _ _ _ _ _)).symm | exact (congrArg some (AObj.ren_cE _ _ _)).symm)) rfl ?_
      refine fM rfl ?_
      refine Mid.iaS rfl rfl (by omega) rfl ?_
      refine Mid.ldE rfl rfl (hgd) rfl ?_
      refine fM rfl ?_
      refine Run.cond rfl rfl (fun hc => ?_) (fun hc => ?_)
      · have hc2 : tjoin s.graphs.length js ks sp D' A x ≠ D'.getD i 0 := by simpa [iE] using hc
        refine fR rfl ?_
        refine Mid.iaS rfl rfl (by omega) rfl ?_
        refine Mid.stE rfl rfl ((by show 0 + i * 1 < D'.length; omega)) rfl rfl ?_
        refine fM rfl ?_
        refine aL rfl rfl rfl rfl rfl ?_
        refine fM rfl ?_
        exact rWeak 6 rfl (ih2 (D'.set i (tjoin s.graphs.length js ks sp D' A x), true) ⟨by simp [hD'], by rw [hinv]; simp only [dR]; rw [if_pos hc2]⟩) rfl rfl rfl
      · have hc2 : tjoin s.graphs.length js ks sp D' A x = D'.getD i 0 := by simpa [iE] using hc
        refine fR rfl ?_
        refine aL rfl rfl rfl rfl rfl ?_
        refine fM rfl ?_
        exact rWeak 6 rfl (ih2 (D', c1) ⟨hD', by rw [hinv]; simp only [dR]; rw [if_neg (fun e => e hc2)]⟩) rfl rfl rfl
end
end Go.GB.C26

/-
  R26L: contracts of chapter 26's functions: what the reference hands out; comparisons.
-/
namespace Go.GB.C26
open Go.GB
set_option linter.unusedSimpArgs false
set_option linter.unusedVariables false
set_option maxRecDepth 100000
set_option maxHeartbeats 1000000
variable {P : Program}

def tC4 (s : Super) (sp : List Spot) (js : List Join) (ks : List KeyO) : List V :=
  [.t (.int .i64 s.graphs.length), .t (.lst (js.map Join.enc)), .t (.lst (ks.map KeyO.enc)), .t (.lst (sp.map Spot.enc)), .slc 5 0 js.length 1, .slc 6 0 s.graphs.length 1]
def tlevels (D : List Int) : Nat → List Join → List Level → List Level
  | _, [], acc => acc
  | i, j :: r, acc => tlevels D (i + 1) r (if D.getD i 0 > 0 then acc ++ [⟨j.field, j.graph, D.getD i 0⟩] else acc)

section
variable {s : Super} {name : Str} {here sp : List Spot} {js : List Join} {ks : List KeyO} {D A : List Int}

theorem rGraphs_ok (H : Pr P) (h : Fil s name here sp js ks D A) : FnOk P 13 [s.v, .t (.str name), .t (.lst (here.map Spot.enc))] ⟨[], 0⟩ { v := .t (.lst (A.map fun x => [iE x])) } := by
  refine FnOk.run H.i13 H.mixed rfl rfl ?_
  refine fR rfl ?_
  refine Mid.callR [] (fill_ok H h) rfl rfl rfl rfl rfl (by repeat' (first | exact trivial | exact rfl | refine And.intro ?_ ?_ | exact (congrArg some (AObj.ren_mE _ _ _ _ _ _)).symm | exact (congrArg some (AObj.ren_cE _ _ _)).symm)) rfl rfl (ob' := [(3, .cells (tC4 s sp js ks)), (5, .cells (cE iE D)), (6, .cells (cE iE A))]) ((by simp only [renOb, AObj.ren_mE, AObj.ren_cE]; rfl)) rfl rfl ?_
  refine fM rfl ?_
  refine Run.fin rfl (EndOk.go ?_)
  exact LeR.slcE (Nat.zero_le _) rfl h.hA1.symm

theorem rGet_ok (H : Pr P) (h : Fil s name here sp js ks D A) (f : Str) : FnOk P 18 [s.v, .t (.str name), .t (.lst (here.map Spot.enc)), .t (.str f)] ⟨[], 0⟩ { v := .tup [.t (.int .i64 (tlevel s.graphs.length js D A f)), .t (.bool (decide (tlevel s.graphs.length js D A f > 0)))] } := by
  refine FnOk.run H.i18 H.mixed rfl rfl ?_
  refine fR rfl ?_
  refine Mid.callR [] (fill_ok H h) rfl rfl rfl rfl rfl (by repeat' (first | exact trivial | exact rfl | refine And.intro ?_ ?_ | exact (congrArg some (AObj.ren_mE _ _ _ _ _ _)).symm | exact (congrArg some (AObj.ren_cE _ _ _)).symm)) rfl rfl (ob' := [(3, .cells (tC4 s sp js ks)), (5, .cells (cE iE D)), (6, .cells (cE iE A))]) ((by simp only [renOb, AObj.ren_mE, AObj.ren_cE]; rfl)) rfl rfl ?_
  refine fM rfl ?_
  refine Mid.callRd [3, 5, 6] (tlevel_ok H (h.hT D A h.hD1 h.hA1) f) rfl rfl rfl rfl tSto_bd (by repeat' (first | exact trivial | exact rfl | refine And.intro ?_ ?_ | exact (congrArg some (AObj.ren_mE _ _ _ _ _ _)).symm | exact (congrArg some (AObj.ren_cE _ _ _)).symm)) rfl ?_
  refine fM rfl ?_
  refine Run.fin rfl (EndOk.go ?_); exact .tup2 (.t rfl) (.t rfl)

theorem rLevels_ok (H : Pr P) (h : Fil s name here sp js ks D A) : FnOk P 17 [s.v, .t (.str name), .t (.lst (here.map Spot.enc))] ⟨[], 0⟩ { v := .t (.lst ((tlevels D 0 js []).map Level.enc)) } := by
  have h1 := (h.hT D A h.hD1 h.hA1).jsL
  have h2 := h.hD1
  refine FnOk.run H.i17 H.mixed rfl rfl ?_
  refine fR rfl ?_
  refine Mid.callR [] (fill_ok H h) rfl rfl rfl rfl rfl (by repeat' (first | exact trivial | exact rfl | refine And.intro ?_ ?_ | exact (congrArg some (AObj.ren_mE _ _ _ _ _ _)).symm | exact (congrArg some (AObj.ren_cE _ _ _)).symm)) rfl rfl (ob' := [(3, .cells (tC4 s sp js ks)), (5, .cells (cE iE D)), (6, .cells (cE iE A))]) ((by simp only [renOb, AObj.ren_mE, AObj.ren_cE]; rfl)) rfl rfl ?_
  refine fM rfl ?_
  refine rList js (fun i (B : List Level) => { env := [(7, .ptr 3 0), (8, .own 7 3 (B.map Level.enc)), (9, .t (.int .i64 i))], s := ⟨[(3, .cells (tC4 s sp js ks)), (5, .cells (cE iE D)), (6, .cells (cE iE A)), (7, .arr B.length)], 8⟩ }) (fun r i B => B.length ≤ i ∧ tlevels D 0 js [] = tlevels D i r B) 7 [] rfl ⟨by simp, rfl⟩ rfl rfl rfl ?_ ?_
  · rintro B ⟨_, hinv⟩
    refine fR rfl ?_
    refine lM rfl rfl rfl ?_
    refine fM rfl ?_
    refine Run.condF rfl rfl (by simp) ?_
    refine fR rfl ?_
    refine Run.fin rfl (EndOk.go ?_)
    exact .own (by rw [hinv]; rfl)
  · rintro i x r B hi1 hi hd ⟨hl, hinv⟩ ih
    have hgd : D[0 + i * 1]? = some (D.getD i 0) := by
      have e : 0 + i * 1 = i := by omega
      rw [e, List.getD_eq_getElem?_getD, List.getElem?_eq_getElem (by omega)]; rfl
    refine fR rfl ?_
    refine lM rfl rfl rfl ?_
    refine fM rfl ?_
    refine Run.condT rfl rfl (by simp; omega) ?_
    refine fR rfl ?_
    refine Mid.iaS rfl rfl (by omega) rfl ?_
    refine Mid.ldE rfl rfl (hgd) rfl ?_
    refine fM rfl ?_
    refine Run.cond rfl rfl (fun hc => ?_) (fun hc => ?_)
    · have hc2 : D.getD i 0 > 0 := by simpa using hc
      refine fR rfl ?_
      refine Mid.elemMap rfl rfl rfl hi1 rfl rfl ?_
      refine fM rfl ?_
      refine Mid.elemMap rfl rfl rfl hi1 rfl rfl ?_
      refine fM rfl ?_
      refine Mid.iaS rfl rfl (by omega) rfl ?_
      refine Mid.ldE rfl rfl (hgd) rfl ?_
      refine fM rfl ?_
      refine apM Level.enc B [⟨x.field, x.graph, D.getD i 0⟩] rfl rfl rfl rfl rfl ?_
      refine fM rfl ?_
      refine aL rfl rfl rfl rfl rfl ?_
      refine fM rfl ?_
      exact rWeak 8 rfl (ih (B ++ [⟨x.field, x.graph, D.getD i 0⟩]) ⟨by simp; omega, by rw [hinv]; simp only [tlevels]; rw [if_pos hc2]⟩) rfl rfl rfl
    · have hc2 : ¬ D.getD i 0 > 0 := by simpa using hc
      refine fR rfl ?_
      refine aL rfl rfl rfl rfl rfl ?_
      refine fM rfl ?_
      exact rWeak 8 rfl (ih B ⟨by omega, by rw [hinv]; simp only [tlevels]; rw [if_neg hc2]⟩) rfl rfl rfl
end
end Go.GB.C26

/-
  R26M: contracts of chapter 26's functions: Large, the law's numbers.
-/
namespace Go.GB.C26
open Go.GB
set_option linter.unusedSimpArgs false
set_option linter.unusedVariables false
set_option maxRecDepth 100000
set_option maxHeartbeats 1000000
variable {P : Program}

def nE (x : Int) : List T := [iE x]
theorem numbers_ok (H : Pr P) (a b : List Int) (ha : a.length ≤ 100000) (hb : b.length ≤ 100000) : FnOk P 11 [.t (.lst (a.map fun x => [iE x])), .t (.lst (b.map fun x => [iE x]))] ⟨[], 0⟩ { v := .t (.bool (decide (a = b))) } := by
  refine FnOk.run H.i11 H.mixed rfl rfl ?_
  refine fR rfl ?_
  refine lM rfl rfl rfl ?_
  refine fM rfl ?_
  refine lM rfl rfl rfl ?_
  refine fM rfl ?_
  refine Run.cond rfl rfl (fun h => ?_) (fun h => ?_)
  · refine fR rfl ?_
    refine Run.fin rfl (EndOk.go ?_)
    have : ¬ a = b := by rintro rfl; simp at h
    exact .t (by simp [this])
  · refine fR rfl ?_
    have hl : a.length = b.length := by
      have : ((a.length : Nat) : Int) = (b.length : Nat) := by simpa using h
      omega
    refine rList a (fun i (_ : Unit) => { env := [(0, .t (.lst (a.map fun x => [iE x]))), (1, .t (.lst (b.map fun x => [iE x]))), (5, .t (.int .i64 i))], s := ⟨[], 0⟩ }) (fun r i _ => (a = b) = (r = b.drop i)) 0 () rfl (by simp) rfl rfl rfl ?_ ?_
    · intro _ hinv
      refine fR rfl ?_
      refine lM rfl rfl rfl ?_
      refine fM rfl ?_
      refine Run.condF rfl rfl (by simp) ?_
      refine fR rfl ?_
      have : a = b := by rw [hinv]; simp [hl]
      refine Run.fin rfl (EndOk.go ?_); exact .t (by simp [this])
    · intro i x r _ h1 hi hd hinv ih
      have h2 : b[i]? = some (b[i]'(by omega)) := by simp
      have hdb : b.drop i = b[i]'(by omega) :: b.drop (i + 1) := List.drop_eq_getElem_cons (by omega)
      refine fR rfl ?_
      refine lM rfl rfl rfl ?_
      refine fM rfl ?_
      refine Run.condT rfl rfl (by simp; omega) ?_
      refine fR rfl ?_
      refine Mid.elemMap rfl rfl rfl h1 rfl rfl ?_
      refine fM rfl ?_
      refine Mid.elemMap rfl rfl rfl h2 rfl rfl ?_
      refine fM rfl ?_
      refine Run.cond rfl rfl (fun hc => ?_) (fun hc => ?_)
      · refine fR rfl ?_
        have hne : ¬ x = b[i]'(by omega) := by simpa [iE] using hc
        have : ¬ a = b := by rw [hinv, hdb]; exact fun e => hne (List.cons.inj e).1
        refine Run.fin rfl (EndOk.go ?_); exact .t (by simp [this])
      · refine fR rfl ?_
        refine aL rfl rfl rfl rfl rfl ?_
        refine fM rfl ?_
        have he : x = b[i]'(by omega) := by simpa [iE] using hc
        exact rWeak 0 rfl (ih () (by rw [hinv, hdb]; exact propext ⟨fun e => (List.cons.inj e).2, fun e => by rw [he, e]⟩)) rfl rfl rfl

def bigJ (j : Join) : Bool := decide ((j.req.length : Int) > 10) || decide ((j.prov.length : Int) > 10)
def bigK (k : KeyO) : Bool := decide ((k.fields.length : Int) > 10)
def big0 (s : Super) (here : List Spot) : Bool := decide ((s.graphs.length : Int) > 10) || decide ((s.joins.length : Int) > 120) || decide ((s.keys.length : Int) > 60) || decide ((here.length : Int) > 40)
def largeP (s : Super) (here : List Spot) : Bool := big0 s here || s.joins.any bigJ || s.keys.any bigK

theorem large_ok (H : Pr P) (s : Super) (here : List Spot) : FnOk P 9 [s.v, .t (.lst (here.map Spot.enc))] ⟨[], 0⟩ { v := .t (.bool (largeP s here)) } := by
  refine FnOk.run H.i9 H.mixed rfl rfl ?_
  refine fR rfl ?_
  refine lM rfl rfl rfl ?_
  refine fM rfl ?_
  refine lMG rfl rfl rfl rfl ?_
  refine fM rfl ?_
  refine lMG rfl rfl rfl rfl ?_
  refine fM rfl ?_
  refine lMG rfl rfl rfl rfl ?_
  refine fM rfl ?_
  refine Run.cond rfl rfl (fun h => ?_) (fun h => ?_)
  · refine fR rfl ?_
    have h0 : big0 s here = true := h
    refine Run.fin rfl (EndOk.go ?_); exact .t (by simp [largeP, h0])
  · have h0 : big0 s here = false := h
    have hb : s.joins.length ≤ 120 ∧ s.keys.length ≤ 60 := by
      simp [big0] at h0; omega
    refine fR rfl ?_
    refine rList s.joins (fun i (_ : Unit) => { env := [(2, .ptr 0 0), (5, .t (.int .i64 i))], s := ⟨[(0, .cells [.t (.lst (s.graphs.map sE)), .t s.doc, .t (.lst (s.keys.map KeyO.enc)), .t (.lst (s.joins.map Join.enc))])], 1⟩ }) (fun r i _ => s.joins.any bigJ = r.any bigJ) 1 () rfl rfl rfl rfl rfl ?_ ?_
    · intro _ hinv
      have hj : s.joins.any bigJ = false := by rw [hinv]; rfl
      refine fR rfl ?_
      refine lM rfl rfl rfl ?_
      refine fM rfl ?_
      refine Run.condF rfl rfl (by simp) ?_
      refine fR rfl ?_
      refine rList s.keys (fun i (_ : Unit) => { env := [(2, .ptr 0 0), (6, .t (.int .i64 i))], s := ⟨[(0, .cells [.t (.lst (s.graphs.map sE)), .t s.doc, .t (.lst (s.keys.map KeyO.enc)), .t (.lst (s.joins.map Join.enc))])], 1⟩ }) (fun r i _ => s.keys.any bigK = r.any bigK) 1 () rfl rfl rfl rfl rfl ?_ ?_
      · intro _ hinv'
        have hk : s.keys.any bigK = false := by rw [hinv']; rfl
        refine fR rfl ?_
        refine lM rfl rfl rfl ?_
        refine fM rfl ?_
        refine Run.condF rfl rfl (by simp) ?_
        refine fR rfl ?_
        refine Run.fin rfl (EndOk.go ?_); exact .t (by simp only [largeP, h0, hj, hk]; rfl)
      · intro i x r _ h1 hi hd hinv' ih
        refine fR rfl ?_
        refine lM rfl rfl rfl ?_
        refine fM rfl ?_
        refine Run.condT rfl rfl (by simp; omega) ?_
        refine fR rfl ?_
        refine Mid.elemMap rfl rfl rfl h1 rfl rfl ?_
        refine fM rfl ?_
        refine lM rfl rfl rfl ?_
        refine fM rfl ?_
        refine Run.cond rfl rfl (fun hc => ?_) (fun hc => ?_)
        · refine fR rfl ?_
          have hc2 : bigK x = true := hc
          have hk : s.keys.any bigK = true := by rw [hinv']; simp [hc2]
          refine Run.fin rfl (EndOk.go ?_); exact .t (by simp [largeP, hk])
        · refine fR rfl ?_
          refine aL rfl rfl rfl rfl rfl ?_
          refine fM rfl ?_
          have hc2 : bigK x = false := hc
          exact rWeak 1 rfl (ih () (by rw [hinv']; simp [hc2])) rfl rfl rfl
    · intro i x r _ h1 hi hd hinv ih
      refine fR rfl ?_
      refine lM rfl rfl rfl ?_
      refine fM rfl ?_
      refine Run.condT rfl rfl (by simp; omega) ?_
      refine fR rfl ?_
      refine Mid.elemMap rfl rfl rfl h1 rfl rfl ?_
      refine fM rfl ?_
      refine lM rfl rfl rfl ?_
      refine fM rfl ?_
      refine elG rfl rfl rfl rfl h1 rfl rfl ?_
      refine fM rfl ?_
      refine lMG rfl rfl rfl rfl ?_
      refine fM rfl ?_
      refine Run.cond rfl rfl (fun hc => ?_) (fun hc => ?_)
      · refine fR rfl ?_
        have hc2 : bigJ x = true := hc
        have hk : s.joins.any bigJ = true := by rw [hinv]; simp [hc2]
        refine Run.fin rfl (EndOk.go ?_); exact .t (by simp [largeP, hk])
      · refine fR rfl ?_
        refine aL rfl rfl rfl rfl rfl ?_
        refine fM rfl ?_
        have hc2 : bigJ x = false := hc
        exact rWeak 1 rfl (ih () (by rw [hinv]; simp [hc2])) rfl rfl rfl
end Go.GB.C26

/-
  R26P: numbers that get smaller step by step, where 0 is none; the least numbers as derivations.
-/
namespace Go.GB.C26
open Go.GB
set_option linter.unusedSimpArgs false
set_option linter.unusedVariables false
set_option linter.unusedSectionVars false
set_option maxRecDepth 100000

/-- there is a number, and it is at most d -/
def Q (x d : Int) : Prop := 1 ≤ x ∧ x ≤ d
theorem Q.mono {x d e : Int} (h : Q x d) (he : d ≤ e) : Q x e := ⟨h.1, by have := h.2; omega⟩
theorem q_ext {x y : Int} (hx : 0 ≤ x) (hy : 0 ≤ y) (h : ∀ d, Q x d ↔ Q y d) : x = y := by
  by_cases h0 : x = 0
  · by_cases h1 : y = 0
    · omega
    · have := (h y).2 ⟨by omega, by omega⟩
      have := this.1; omega
  · have a := (h x).1 ⟨by omega, by omega⟩
    have b := (h y).2 ⟨a.1, by omega⟩
    have := a.2; have := b.2; omega
theorem q_lesser {a b d : Int} (ha : 0 ≤ a) (hb : 0 ≤ b) : Q (lesser a b) d ↔ Q a d ∨ Q b d := by
  simp only [lesser, Q]
  split
  · next h => simp at h; omega
  · next h => simp at h; omega
theorem nn_lesser {a b : Int} (ha : 0 ≤ a) (hb : 0 ≤ b) : 0 ≤ lesser a b := by
  simp only [lesser]; split <;> assumption
theorem lesser_ne {a b : Int} (h : lesser a b ≠ a) (hb : 0 ≤ b) : lesser a b = b ∧ 0 < b ∧ (a = 0 ∨ b < a) := by
  simp only [lesser] at h ⊢
  split
  · next e =>
    rw [if_pos e] at h
    simp at e; exact ⟨rfl, by omega, by omega⟩
  · next e => rw [if_neg e] at h; exact absurd rfl h
theorem q_least {a b d : Int} (ha : 0 ≤ a) (hb : 0 ≤ b) : Q (least a b) d ↔ Q a d ∨ Q b d := by
  simp only [least, Q]
  split
  · next h => simp at h; omega
  · next h => simp at h; omega
theorem nn_least {a b : Int} (ha : 0 ≤ a) (hb : 0 ≤ b) : 0 ≤ least a b := by
  simp only [least]; split <;> assumption

section
variable {ι : Type} [DecidableEq ι]
def upd (v : ι → Int) (i : ι) (x : Int) : ι → Int := fun k => if k = i then x else v k
def cnt (v : ι → Int) : List ι → Nat
  | [] => 0
  | i :: r => (if v i = 0 then 0 else 1) + cnt v r
def pot (v : ι → Int) : List ι → Nat
  | [] => 0
  | i :: r => (if v i = 0 then 4398046511104 else (v i).toNat) + pot v r
theorem cnt_le (v : ι → Int) : ∀ fs : List ι, cnt v fs ≤ fs.length
  | [] => Nat.le_refl _
  | i :: r => by have := cnt_le v r; simp only [cnt, List.length_cons]; split <;> omega
theorem cnt_upd {v : ι → Int} {i : ι} {x : Int} (hx : x ≠ 0) : ∀ fs : List ι, cnt v fs ≤ cnt (upd v i x) fs
  | [] => Nat.le_refl _
  | k :: r => by
    have := cnt_upd (v := v) (i := i) hx r
    simp only [cnt]
    by_cases h : k = i
    · have e : upd v i x k = x := by simp [upd, h]
      rw [e]; (repeat' split) <;> omega
    · have e : upd v i x k = v k := by simp [upd, h]
      rw [e]; split <;> omega
theorem cnt_upd0 {v : ι → Int} {i : ι} {x : Int} (hx : x ≠ 0) (h0 : v i = 0) : ∀ fs : List ι, i ∈ fs → cnt v fs + 1 ≤ cnt (upd v i x) fs
  | [], h => by cases h
  | k :: r, h => by
    have h2 := cnt_upd (v := v) (i := i) hx r
    simp only [cnt]
    by_cases hk : k = i
    · have e : upd v i x k = x := by simp [upd, hk]
      rw [e, hk]; simp only [h0, hx, if_true, if_false]; omega
    · have h3 := cnt_upd0 (i := i) hx h0 r (by cases h with | head => exact absurd rfl hk | tail _ h => exact h)
      have e : upd v i x k = v k := by simp [upd, hk]
      rw [e]; split <;> omega
theorem pot_upd' {v : ι → Int} {i : ι} {x : Int} (hx : 0 < x) (h0 : v i = 0 ∧ x < 4398046511104 ∨ x < v i) : ∀ fs : List ι, pot (upd v i x) fs ≤ pot v fs
  | [] => Nat.le_refl _
  | k :: r => by
    have h3 := pot_upd' hx h0 r
    simp only [pot]
    by_cases hk : k = i
    · have e : upd v i x k = x := by simp [upd, hk]
      rw [e, hk]; (repeat' split) <;> omega
    · have e : upd v i x k = v k := by simp [upd, hk]
      rw [e]; split <;> omega
theorem pot_upd {v : ι → Int} {i : ι} {x : Int} (hx : 0 < x) (h0 : v i = 0 ∧ x < 4398046511104 ∨ x < v i) : ∀ fs : List ι, i ∈ fs → pot (upd v i x) fs < pot v fs
  | [], h => by cases h
  | k :: r, h => by
    have h2 := pot_upd' hx h0 r
    simp only [pot]
    by_cases hk : k = i
    · have e : upd v i x k = x := by simp [upd, hk]
      rw [e, hk]; (repeat' split) <;> omega
    · have h3 := pot_upd hx h0 r (by cases h with | head => exact absurd rfl hk | tail _ h => exact h)
      have e : upd v i x k = v k := by simp [upd, hk]
      rw [e]; split <;> omega
structure Bd (fs : List ι) (v : ι → Int) : Prop where
  len : fs.length ≤ 1000000
  nn : ∀ i, 0 ≤ v i
  le : ∀ i, v i ≤ 1099511627776 + cnt v fs
theorem Bd.lt {fs : List ι} {v : ι → Int} (h : Bd fs v) (i : ι) : v i ≤ 1099512627776 := by
  have := h.le i; have := cnt_le v fs; have := h.len; omega
theorem Bd.step {fs : List ι} {v : ι → Int} (h : Bd fs v) {i : ι} {x : Int} (hi : i ∈ fs) (hx : 0 < x) (hc : v i = 0 ∨ x < v i) (hb : x ≤ 1099511627776 + cnt v fs + 1) :
    Bd fs (upd v i x) ∧ pot (upd v i x) fs < pot v fs := by
  have h1 := cnt_le v fs
  have h2 := h.len
  have h3 := cnt_upd (v := v) (i := i) (x := x) (by omega) fs
  refine ⟨⟨h2, fun k => ?_, fun k => ?_⟩, pot_upd hx ?_ fs hi⟩
  · have e : upd v i x k = if k = i then x else v k := rfl
    rw [e]; split
    · omega
    · exact h.nn k
  · have e : upd v i x k = if k = i then x else v k := rfl
    rw [e]; split
    · rcases hc with hc | hc
      · have := cnt_upd0 (x := x) (by omega) hc fs hi
        omega
      · have := h.le i; omega
    · have := h.le k; omega
  · rcases hc with hc | hc
    · left; exact ⟨hc, by omega⟩
    · right; exact hc
end

inductive Fct where
  | a (g : Int)
  | l (f : Str)
  | j (j : Join)
/-- what follows from spots, joins and keys: a number at most d -/
inductive Der (n : Nat) (sp : List Spot) (js : List Join) (ks : List KeyO) : Fct → Int → Prop where
  | spot (x : Spot) : x ∈ sp → Der n sp js ks (.a x.graph) x.depth
  | key (k : KeyO) (d : Int) : k ∈ ks → k.fields ≠ [] → (∀ f, f ∈ k.fields → Der n sp js ks (.l f) d) → Der n sp js ks (.a k.graph) (d + 1)
  | lj (j : Join) (d : Int) : j ∈ js → Der n sp js ks (.j j) d → Der n sp js ks (.l j.field) d
  | lt (g : Nat) (d : Int) : g < n → Der n sp js ks (.a g) d → Der n sp js ks (.l tyN) d
  | jx (j : Join) (x : Spot) : j.ext = true → x ∈ sp → x.graph = j.graph → j.field ∈ x.prov → Der n sp js ks (.j j) x.depth
  | j0 (j : Join) (d : Int) : j.ext = false → j.req = [] → Der n sp js ks (.a j.graph) d → Der n sp js ks (.j j) d
  | jr (j : Join) (k : KeyO) (d : Int) : j.ext = false → j.req ≠ [] → k ∈ ks → k.graph = j.graph → k.fields ≠ [] → (∀ f, f ∈ k.fields → Der n sp js ks (.l f) d) → (∀ f, f ∈ j.req → Der n sp js ks (.l f) d) → Der n sp js ks (.j j) (d + 1)
  | up (x : Fct) (d e : Int) : Der n sp js ks x d → d ≤ e → Der n sp js ks x e

/-- all given things are in range -/
structure In (n : Nat) (sp : List Spot) (js : List Join) (ks : List KeyO) : Prop where
  n0 : n ≤ 1000
  jl : js.length ≤ 1000
  sg : ∀ x ∈ sp, 0 ≤ x.graph ∧ x.graph < n ∧ 1 ≤ x.depth ∧ x.depth ≤ 1099511627776
  jg : ∀ j ∈ js, 0 ≤ j.graph ∧ j.graph < n
  kg : ∀ k ∈ ks, 0 ≤ k.graph ∧ k.graph < n

theorem wrap_small {x : Int} (h0 : 0 ≤ x) (h1 : x ≤ 1099512627780) : IntKind.i64.wrap x = x := by
  exact wrap64 (by omega) (by omega)

/-- the numbers say what can be derived -/
structure Ans (n : Nat) (sp : List Spot) (js : List Join) (ks : List KeyO) (a : Nat → Int) (l : Str → Int) (rd : Join → Int) : Prop where
  na : ∀ g, g < n → 0 ≤ a g
  nl : ∀ f, 0 ≤ l f
  nj : ∀ j, j ∈ js → 0 ≤ rd j
  qa : ∀ g, g < n → ∀ d, Q (a g) d ↔ Der n sp js ks (.a g) d
  ql : ∀ f d, Q (l f) d ↔ Der n sp js ks (.l f) d
  qj : ∀ j, j ∈ js → ∀ d, Q (rd j) d ↔ Der n sp js ks (.j j) d

theorem Ans.eqA {n sp js ks a l rd a' l' rd'} (h : Ans n sp js ks a l rd) (h' : Ans n sp js ks a' l' rd') (g : Nat) (hg : g < n) : a g = a' g :=
  q_ext (h.na g hg) (h'.na g hg) fun d => (h.qa g hg d).trans (h'.qa g hg d).symm
theorem Ans.eqL {n sp js ks a l rd a' l' rd'} (h : Ans n sp js ks a l rd) (h' : Ans n sp js ks a' l' rd') (f : Str) : l f = l' f :=
  q_ext (h.nl f) (h'.nl f) fun d => (h.ql f d).trans (h'.ql f d).symm
theorem Ans.eqJ {n sp js ks a l rd a' l' rd'} (h : Ans n sp js ks a l rd) (h' : Ans n sp js ks a' l' rd') (j : Join) (hj : j ∈ js) : rd j = rd' j :=
  q_ext (h.nj j hj) (h'.nj j hj) fun d => (h.qj j hj d).trans (h'.qj j hj d).symm
end Go.GB.C26

/-
  R26Q: what solve finds is the least of what can be derived.
-/
namespace Go.GB.C26
open Go.GB
set_option linter.unusedSimpArgs false
set_option linter.unusedVariables false
set_option maxRecDepth 100000

def vR (F : List (Str × Int)) (A : List Int) : Nat ⊕ Str → Int
  | .inl g => A.getD g 0
  | .inr f => (kget f F).getD 0
theorem vR_setA {F : List (Str × Int)} {A : List Int} {i : Nat} {x : Int} (hi : i < A.length) : vR F (A.set i x) = upd (vR F A) (.inl i) x := by
  funext k
  cases k with
  | inl g =>
    simp only [vR, upd, List.getD_eq_getElem?_getD, List.getElem?_set]
    by_cases h : i = g
    · subst h; simp [hi]
    · have : ¬ g = i := fun e => h e.symm
      simp [h, this]
  | inr f => simp [vR, upd]
theorem vR_setF {F : List (Str × Int)} {A : List Int} {f : Str} {x : Int} : vR (kset f x F) A = upd (vR F A) (.inr f) x := by
  funext k
  cases k with
  | inl g => simp [vR, upd]
  | inr f' =>
    simp only [vR, upd, kget_kset, Sum.inr.injEq]
    by_cases h : f' = f
    · simp [h]
    · simp [h]
def fsR (n : Nat) (js : List Join) : List (Nat ⊕ Str) := (List.range n).map .inl ++ js.map (fun j => .inr j.field)

section
variable {n : Nat} {sp : List Spot} {js : List Join} {ks : List KeyO} {F : List (Str × Int)} {A : List Int}

theorem q_foldG (hA : ∀ g, 0 ≤ A.getD g 0) : ∀ (c i : Nat) (b : Int), 0 ≤ b → 0 ≤ foldG A i c b ∧ ∀ d, Q (foldG A i c b) d ↔ Q b d ∨ ∃ g, i ≤ g ∧ g < i + c ∧ Q (A.getD g 0) d
  | 0, i, b, hb => ⟨hb, fun d => by
    simp only [foldG]
    exact ⟨Or.inl, fun h => h.elim id fun ⟨g, h1, h2, _⟩ => by omega⟩⟩
  | c + 1, i, b, hb => by
    obtain ⟨h1, h2⟩ := q_foldG hA c (i + 1) (lesser b (A.getD i 0)) (nn_lesser hb (hA i))
    refine ⟨h1, fun d => ?_⟩
    simp only [foldG]
    rw [h2 d, q_lesser hb (hA i)]
    constructor
    · rintro ((h | h) | ⟨g, g1, g2, g3⟩)
      · exact Or.inl h
      · exact Or.inr ⟨i, by omega, by omega, h⟩
      · exact Or.inr ⟨g, by omega, by omega, g3⟩
    · rintro (h | ⟨g, g1, g2, g3⟩)
      · exact Or.inl (Or.inl h)
      · by_cases e : g = i
        · subst e; exact Or.inl (Or.inr g3)
        · exact Or.inr ⟨g, by omega, by omega, g3⟩
theorem q_level (hv : ∀ i, 0 ≤ vR F A i) (f : Str) : 0 ≤ levelP n F A f ∧ ∀ d, Q (levelP n F A f) d ↔ Q ((kget f F).getD 0) d ∨ (f = tyN ∧ ∃ g, g < n ∧ Q (A.getD g 0) d) := by
  have h0 : 0 ≤ (kget f F).getD 0 := hv (.inr f)
  simp only [levelP]
  by_cases h : f = tyN
  · rw [if_pos h]
    obtain ⟨h1, h2⟩ := q_foldG (fun g => hv (.inl g)) n 0 _ h0
    refine ⟨h1, fun d => ?_⟩
    rw [h2 d]
    constructor
    · rintro (h | ⟨g, _, g2, g3⟩)
      · exact Or.inl h
      · exact Or.inr ⟨‹_›, g, by omega, g3⟩
    · rintro (h | ⟨_, g, g2, g3⟩)
      · exact Or.inl h
      · exact Or.inr ⟨g, by omega, by omega, g3⟩
  · rw [if_neg h]
    exact ⟨h0, fun d => ⟨Or.inl, fun h' => h'.elim id fun ⟨e, _⟩ => absurd e h⟩⟩
theorem q_all (hv : ∀ i, 0 ≤ vR F A i) : ∀ (l : List Str) (m : Int), 0 ≤ m → 0 ≤ allP n F A l m ∧ ∀ d, Q (allP n F A l m) d ↔ (l = [] → 1 ≤ m) ∧ m ≤ d ∧ ∀ f, f ∈ l → Q (levelP n F A f) d
  | [], m, hm => ⟨hm, fun d => by simp [allP, Q]⟩
  | f :: r, m, hm => by
    obtain ⟨h1, h2⟩ := q_level (n := n) hv f
    simp only [allP]
    by_cases h0 : levelP n F A f = 0
    · rw [if_pos h0]
      refine ⟨by omega, fun d => ?_⟩
      constructor
      · intro h; have := h.1; omega
      · rintro ⟨_, _, h⟩
        have := (h f (List.mem_cons_self ..)).1; omega
    · rw [if_neg h0]
      have hx : 0 ≤ (if levelP n F A f > m then levelP n F A f else m) := by split <;> omega
      obtain ⟨h3, h4⟩ := q_all hv r _ hx
      refine ⟨h3, fun d => ?_⟩
      rw [h4 d]
      constructor
      · rintro ⟨a, b, c⟩
        refine ⟨fun e => (by cases e), by split at b <;> omega, ?_⟩
        intro f' hf'
        cases hf' with
        | head => exact ⟨by omega, by split at b <;> omega⟩
        | tail _ h => exact c f' h
      · rintro ⟨a, b, c⟩
        have h5 := c f (List.mem_cons_self ..)
        have := h5.1; have := h5.2
        refine ⟨fun _ => by split <;> omega, by split <;> omega, fun f' h => c f' (List.mem_cons_of_mem _ h)⟩
theorem q_all0 (hv : ∀ i, 0 ≤ vR F A i) (l : List Str) : 0 ≤ allP n F A l 0 ∧ ∀ d, Q (allP n F A l 0) d ↔ l ≠ [] ∧ ∀ f, f ∈ l → Q (levelP n F A f) d := by
  obtain ⟨h1, h2⟩ := q_all (n := n) hv l 0 (Int.le_refl 0)
  refine ⟨h1, fun d => ?_⟩
  rw [h2 d]
  constructor
  · rintro ⟨a, b, c⟩
    exact ⟨fun e => by have := a e; omega, c⟩
  · rintro ⟨a, c⟩
    refine ⟨fun e => absurd e a, ?_, c⟩
    cases l with
    | nil => exact absurd rfl a
    | cons f r => have h := c f (List.mem_cons_self ..); have := h.1; have := h.2; omega
theorem q_key (hv : ∀ i, 0 ≤ vR F A i) (g : Int) : ∀ (l : List KeyO) (b : Int), 0 ≤ b → 0 ≤ keyP n F A g l b ∧ ∀ d, Q (keyP n F A g l b) d ↔ Q b d ∨ ∃ k, k ∈ l ∧ k.graph = g ∧ k.fields ≠ [] ∧ ∀ f, f ∈ k.fields → Q (levelP n F A f) d
  | [], b, hb => ⟨hb, fun d => by simp [keyP]⟩
  | k :: r, b, hb => by
    obtain ⟨h1, h2⟩ := q_all0 (n := n) hv k.fields
    simp only [keyP]
    by_cases hg : k.graph = g
    · rw [if_pos hg]
      obtain ⟨h3, h4⟩ := q_key hv g r (lesser b (allP n F A k.fields 0)) (nn_lesser hb h1)
      refine ⟨h3, fun d => ?_⟩
      rw [h4 d, q_lesser hb h1, h2 d]
      constructor
      · rintro ((h | h) | ⟨k', a, b, c⟩)
        · exact Or.inl h
        · exact Or.inr ⟨k, List.mem_cons_self .., hg, h⟩
        · exact Or.inr ⟨k', List.mem_cons_of_mem _ a, b, c⟩
      · rintro (h | ⟨k', a, b, c⟩)
        · exact Or.inl (Or.inl h)
        · cases a with
          | head => exact Or.inl (Or.inr c)
          | tail _ a => exact Or.inr ⟨k', a, b, c⟩
    · rw [if_neg hg]
      obtain ⟨h3, h4⟩ := q_key hv g r b hb
      refine ⟨h3, fun d => ?_⟩
      rw [h4 d]
      constructor
      · rintro (h | ⟨k', a, b, c⟩)
        · exact Or.inl h
        · exact Or.inr ⟨k', List.mem_cons_of_mem _ a, b, c⟩
      · rintro (h | ⟨k', a, b, c⟩)
        · exact Or.inl h
        · cases a with
          | head => exact absurd b hg
          | tail _ a => exact Or.inr ⟨k', a, b, c⟩
theorem q_key0 (hv : ∀ i, 0 ≤ vR F A i) (g : Int) : 0 ≤ keyP n F A g ks 0 ∧ ∀ d, Q (keyP n F A g ks 0) d ↔ ∃ k, k ∈ ks ∧ k.graph = g ∧ k.fields ≠ [] ∧ ∀ f, f ∈ k.fields → Q (levelP n F A f) d := by
  obtain ⟨h1, h2⟩ := q_key (n := n) hv g ks 0 (Int.le_refl 0)
  refine ⟨h1, fun d => ?_⟩
  rw [h2 d]
  exact ⟨fun h => h.elim (fun h => by have := h.1; omega) id, Or.inr⟩
theorem q_spot (j : Join) : ∀ (l : List Spot) (b : Int), 0 ≤ b → (∀ x, x ∈ l → 1 ≤ x.depth) → 0 ≤ spotP j l b ∧ ∀ d, Q (spotP j l b) d ↔ Q b d ∨ ∃ x, x ∈ l ∧ x.graph = j.graph ∧ j.field ∈ x.prov ∧ x.depth ≤ d
  | [], b, hb, _ => ⟨hb, fun d => by simp [spotP]⟩
  | x :: r, b, hb, hx => by
    have h1 := hx x (List.mem_cons_self ..)
    simp only [spotP]
    by_cases hg : (x.graph == j.graph && decide (j.field ∈ x.prov)) = true
    · rw [if_pos hg]
      obtain ⟨h3, h4⟩ := q_spot j r (lesser b x.depth) (nn_lesser hb (by omega)) (fun y hy => hx y (List.mem_cons_of_mem _ hy))
      refine ⟨h3, fun d => ?_⟩
      have hg' : x.graph = j.graph ∧ j.field ∈ x.prov := by simpa using hg
      rw [h4 d, q_lesser hb (by omega)]
      constructor
      · rintro ((h | h) | ⟨k', a, b, c⟩)
        · exact Or.inl h
        · exact Or.inr ⟨x, List.mem_cons_self .., hg'.1, hg'.2, h.2⟩
        · exact Or.inr ⟨k', List.mem_cons_of_mem _ a, b, c⟩
      · rintro (h | ⟨k', a, b, c, e⟩)
        · exact Or.inl (Or.inl h)
        · cases a with
          | head => exact Or.inl (Or.inr ⟨h1, e⟩)
          | tail _ a => exact Or.inr ⟨k', a, b, c, e⟩
    · rw [if_neg hg]
      obtain ⟨h3, h4⟩ := q_spot j r b hb (fun y hy => hx y (List.mem_cons_of_mem _ hy))
      refine ⟨h3, fun d => ?_⟩
      rw [h4 d]
      constructor
      · rintro (h | ⟨k', a, b, c⟩)
        · exact Or.inl h
        · exact Or.inr ⟨k', List.mem_cons_of_mem _ a, b, c⟩
      · rintro (h | ⟨k', a, b, c, e⟩)
        · exact Or.inl h
        · cases a with
          | head => exact absurd (by simp [b, c]) hg
          | tail _ a => exact Or.inr ⟨k', a, b, c, e⟩

/-- the numbers while they are looked for -/
structure InvR (n : Nat) (sp : List Spot) (js : List Join) (ks : List KeyO) (F : List (Str × Int)) (A : List Int) : Prop where
  bd : Bd (fsR n js) (vR F A)
  la : n ≤ A.length
  sA : ∀ (g : Nat) d, Q (A.getD g 0) d → Der n sp js ks (.a g) d
  sF : ∀ f d, Q ((kget f F).getD 0) d → Der n sp js ks (.l f) d
  ss : ∀ x, x ∈ sp → Q (A.getD x.graph.toNat 0) x.depth

theorem InvR.sL (h : InvR n sp js ks F A) (f : Str) (d : Int) (hq : Q (levelP n F A f) d) : Der n sp js ks (.l f) d := by
  rcases ((q_level h.bd.nn f).2 d).1 hq with h1 | ⟨e, g, g1, g2⟩
  · exact h.sF f d h1
  · rw [e]; exact .lt g d g1 (h.sA g d g2)
theorem level_le {B : Int} (hv : ∀ i, 0 ≤ vR F A i) (hB : ∀ i, vR F A i ≤ B) (f : Str) (d : Int) (hq : Q (levelP n F A f) d) : Q (levelP n F A f) B := by
  rw [(q_level hv f).2 B]
  rcases ((q_level hv f).2 d).1 hq with h1 | ⟨e, g, g1, g2⟩
  · exact Or.inl ⟨h1.1, hB (.inr f)⟩
  · exact Or.inr ⟨e, g, g1, g2.1, hB (.inl g)⟩
theorem key_le {B : Int} (hv : ∀ i, 0 ≤ vR F A i) (h0 : 0 ≤ B) (hB : ∀ i, vR F A i ≤ B) (g : Int) : keyP n F A g ks 0 ≤ B := by
  by_cases h : keyP n F A g ks 0 = 0
  · omega
  · obtain ⟨h1, h2⟩ := q_key0 (n := n) (ks := ks) hv g
    obtain ⟨k, a, b, c, e⟩ := (h2 (keyP n F A g ks 0)).1 ⟨by omega, by omega⟩
    exact ((h2 B).2 ⟨k, a, b, c, fun f hf => level_le hv hB f _ (e f hf)⟩).2
theorem all_le {B : Int} (hv : ∀ i, 0 ≤ vR F A i) (h0 : 0 ≤ B) (hB : ∀ i, vR F A i ≤ B) (l : List Str) : allP n F A l 0 ≤ B := by
  by_cases h : allP n F A l 0 = 0
  · omega
  · obtain ⟨h1, h2⟩ := q_all0 (n := n) hv l
    obtain ⟨a, e⟩ := (h2 (allP n F A l 0)).1 ⟨by omega, by omega⟩
    exact ((h2 B).2 ⟨a, fun f hf => level_le hv hB f _ (e f hf)⟩).2

theorem q_read (hi : In n sp js ks) (hv : ∀ i, 0 ≤ vR F A i) (hB : ∀ i, vR F A i ≤ 1099512627776) (j : Join) (hj : 0 ≤ j.graph) : 0 ≤ readP n sp ks F A j ∧ ∀ d, Q (readP n sp ks F A j) d ↔
    (j.ext = true ∧ ∃ x, x ∈ sp ∧ x.graph = j.graph ∧ j.field ∈ x.prov ∧ x.depth ≤ d) ∨
    (j.ext = false ∧ j.req = [] ∧ Q (A.getD j.graph.toNat 0) d) ∨
    (j.ext = false ∧ j.req ≠ [] ∧ (∃ k, k ∈ ks ∧ k.graph = j.graph ∧ k.fields ≠ [] ∧ ∀ f, f ∈ k.fields → Q (levelP n F A f) (d - 1)) ∧ ∀ f, f ∈ j.req → Q (levelP n F A f) (d - 1)) := by
  simp only [readP]
  by_cases he : j.ext = true
  · rw [if_pos he]
    obtain ⟨h1, h2⟩ := q_spot j sp 0 (Int.le_refl 0) (fun x hx => (hi.sg x hx).2.2.1)
    refine ⟨h1, fun d => ?_⟩
    rw [h2 d]
    simp only [he, true_and]
    constructor
    · rintro (h | h)
      · have := h.1; omega
      · exact Or.inl h
    · rintro (h | h | h)
      · exact Or.inr h
      · exact absurd h.1 (by simp)
      · exact absurd h.1 (by simp)
  · rw [if_neg he]
    have he' : j.ext = false := by simpa using he
    by_cases hr : j.req.length = 0
    · rw [if_pos hr]
      have hr' : j.req = [] := List.length_eq_zero_iff.1 hr
      refine ⟨hv (.inl _), fun d => ?_⟩
      simp [he', hr']
    · rw [if_neg hr]
      have hr' : j.req ≠ [] := fun e => hr (by rw [e]; rfl)
      obtain ⟨h1, h2⟩ := q_key0 (n := n) (ks := ks) hv j.graph
      obtain ⟨h3, h4⟩ := q_all0 (n := n) hv j.req
      have h5 := key_le (n := n) (ks := ks) hv (by omega) hB j.graph
      have h6 := all_le (n := n) hv (by omega) hB j.req
      by_cases hz : (keyP n F A j.graph ks 0 == 0 || allP n F A j.req 0 == 0) = true
      · rw [if_pos hz]
        refine ⟨Int.le_refl 0, fun d => ?_⟩
        constructor
        · intro h; have := h.1; omega
        · rintro (h | h | ⟨_, _, h7, h8⟩)
          · exact absurd h.1 he
          · exact absurd h.2.1 hr'
          · have a := ((h2 (d - 1)).2 h7).1
            have b := ((h4 (d - 1)).2 ⟨hr', h8⟩).1
            simp at hz; omega
      · rw [if_neg hz]
        simp at hz
        simp only [up]
        rw [wrap_small (by split <;> omega) (by split <;> omega)]
        refine ⟨by split <;> omega, fun d => ?_⟩
        constructor
        · intro h
          refine Or.inr (Or.inr ⟨he', hr', (h2 (d - 1)).1 ⟨by omega, ?_⟩, ((h4 (d - 1)).1 ⟨by omega, ?_⟩).2⟩)
          · have := h.2; split at this <;> omega
          · have := h.2; split at this <;> omega
        · rintro (h | h | ⟨_, _, h7, h8⟩)
          · exact absurd h.1 he
          · exact absurd h.2.1 hr'
          · have a := ((h2 (d - 1)).2 h7).2
            have b := ((h4 (d - 1)).2 ⟨hr', h8⟩).2
            exact ⟨by split <;> omega, by split <;> omega⟩
theorem read_le {B : Int} (hi : In n sp js ks) (hv : ∀ i, 0 ≤ vR F A i) (h0 : 1099511627776 ≤ B) (hB : ∀ i, vR F A i ≤ B) (hB2 : ∀ i, vR F A i ≤ 1099512627776) (j : Join) (hj : 0 ≤ j.graph) : readP n sp ks F A j ≤ B + 1 := by
  obtain ⟨h1, h2⟩ := q_read (js := js) hi hv hB2 j hj
  by_cases h : readP n sp ks F A j = 0
  · omega
  · refine ((h2 (B + 1)).2 ?_).2
    rcases (h2 (readP n sp ks F A j)).1 ⟨by omega, by omega⟩ with ⟨a, x, b, c, d, e⟩ | ⟨a, b, c⟩ | ⟨a, b, ⟨k, c, d, e, f⟩, g⟩
    · exact Or.inl ⟨a, x, b, c, d, by have := (hi.sg x b).2.2.2; omega⟩
    · exact Or.inr (Or.inl ⟨a, b, c.1, by have := hB (.inl j.graph.toNat); simp only [vR] at this; omega⟩)
    · refine Or.inr (Or.inr ⟨a, b, ⟨k, c, d, e, fun x hx => ?_⟩, fun x hx => ?_⟩)
      · exact (level_le hv hB x _ (f x hx)).mono (by omega)
      · exact (level_le hv hB x _ (g x hx)).mono (by omega)
theorem InvR.sJ (h : InvR n sp js ks F A) (hi : In n sp js ks) (j : Join) (hj : 0 ≤ j.graph) (d : Int) (hq : Q (readP n sp ks F A j) d) : Der n sp js ks (.j j) d := by
  rcases ((q_read hi h.bd.nn h.bd.lt j hj).2 d).1 hq with ⟨a, x, b, c, e, f⟩ | ⟨a, b, c⟩ | ⟨a, b, ⟨k, c, e, f, g⟩, g'⟩
  · exact .up _ _ _ (.jx j x a b c e) f
  · refine .j0 j d a b ?_
    have := h.sA _ _ c
    rwa [Int.toNat_of_nonneg hj] at this
  · have := Der.jr (n := n) (sp := sp) (js := js) (ks := ks) j k (d - 1) a b c e f (fun x hx => h.sL x _ (g x hx)) (fun x hx => h.sL x _ (g' x hx))
    rwa [show d - 1 + 1 = d by omega] at this

theorem gR_inv (hi : In n sp js ks) : ∀ (c i : Nat) (A : List Int) (ch : Bool), InvR n sp js ks F A → i + c = n →
    InvR n sp js ks F (gR n F ks i c A ch).1 ∧ pot (vR F (gR n F ks i c A ch).1) (fsR n js) ≤ pot (vR F A) (fsR n js) ∧
    ((gR n F ks i c A ch).2 = true → ch = true ∨ pot (vR F (gR n F ks i c A ch).1) (fsR n js) < pot (vR F A) (fsR n js)) ∧
    ((gR n F ks i c A ch).2 = false → ch = false ∧ (gR n F ks i c A ch).1 = A ∧ ∀ g : Nat, i ≤ g → g < n → keyP n F A g ks 0 > 0 → lesser (A.getD g 0) (IntKind.i64.wrap (keyP n F A g ks 0 + 1)) = A.getD g 0)
  | 0, i, A, ch, h, hc => by
    simp only [gR]
    exact ⟨h, Nat.le_refl _, Or.inl, fun e => ⟨e, trivial, fun g g1 g2 => by omega⟩⟩
  | c + 1, i, A, ch, h, hc => by
    have hkl := key_le (n := n) (ks := ks) h.bd.nn (by have := cnt_le (vR F A) (fsR n js); omega) h.bd.le i
    have hkl2 := key_le (n := n) (ks := ks) h.bd.nn (by omega) h.bd.lt i
    obtain ⟨hk1, hk2⟩ := q_key0 (n := n) (ks := ks) h.bd.nn (i : Int)
    simp only [gR]
    by_cases hk : keyP n F A i ks 0 > 0
    · rw [if_pos hk]
      have hw : IntKind.i64.wrap (keyP n F A i ks 0 + 1) = keyP n F A i ks 0 + 1 := wrap_small (by omega) (by omega)
      have hA0 : 0 ≤ A.getD i 0 := h.bd.nn (.inl i)
      by_cases hl : lesser (A.getD i 0) (IntKind.i64.wrap (keyP n F A i ks 0 + 1)) ≠ A.getD i 0
      · rw [if_pos hl]
        rw [hw] at hl ⊢
        have hx := lesser_ne hl (by omega)
        rw [hx.1]
        obtain ⟨b1, b2⟩ := h.bd.step (i := .inl i) (x := keyP n F A i ks 0 + 1) (by simp [fsR]; omega) (by omega) hx.2.2 (by omega)
        rw [← vR_setA (by have := h.la; omega)] at b1 b2
        have hD : Der n sp js ks (.a i) (keyP n F A i ks 0 + 1) := by
          obtain ⟨k, a, b, c, e⟩ := (hk2 (keyP n F A i ks 0)).1 ⟨by omega, by omega⟩
          rw [← b]
          rw [← b] at e
          exact .key k _ a c fun f hf => h.sL f _ (e f hf)
        have hI : InvR n sp js ks F (A.set i (keyP n F A i ks 0 + 1)) := by
          refine ⟨b1, by rw [List.length_set]; exact h.la, fun g d hq => ?_, h.sF, fun x hx' => ?_⟩
          · have e : (A.set i (keyP n F A i ks 0 + 1)).getD g 0 = if i = g then keyP n F A i ks 0 + 1 else A.getD g 0 := by
              rw [List.getD_eq_getElem?_getD, List.getElem?_set]
              by_cases hig : i = g
              · subst hig; have := h.la; simp [show i < A.length by omega]
              · simp [hig]
            rw [e] at hq
            by_cases hig : i = g
            · subst hig
              rw [if_pos rfl] at hq
              exact .up _ _ _ hD hq.2
            · rw [if_neg hig] at hq; exact h.sA g d hq
          · have e : (A.set i (keyP n F A i ks 0 + 1)).getD x.graph.toNat 0 = if i = x.graph.toNat then keyP n F A i ks 0 + 1 else A.getD x.graph.toNat 0 := by
              rw [List.getD_eq_getElem?_getD, List.getElem?_set]
              by_cases hig : i = x.graph.toNat
              · rw [← hig]; have := h.la; simp [show i < A.length by omega]
              · simp [hig]
            rw [e]
            have hq := h.ss x hx'
            by_cases hig : i = x.graph.toNat
            · rw [if_pos hig]
              rw [← hig] at hq
              have a1 := hq.1; have a2 := hq.2
              exact ⟨by omega, by omega⟩
            · rw [if_neg hig]; exact hq
        obtain ⟨r1, r2, r3, r4⟩ := gR_inv hi c (i + 1) (A.set i (keyP n F A i ks 0 + 1)) true hI (by omega)
        refine ⟨r1, by omega, fun _ => Or.inr (by omega), fun e => ?_⟩
        have := (r4 e).1
        cases this
      · rw [if_neg hl]
        obtain ⟨r1, r2, r3, r4⟩ := gR_inv hi c (i + 1) A ch h (by omega)
        refine ⟨r1, r2, r3, fun e => ?_⟩
        obtain ⟨e1, e2, e3⟩ := r4 e
        refine ⟨e1, e2, fun g g1 g2 g3 => ?_⟩
        by_cases hg : g = i
        · subst hg
          exact Decidable.not_not.1 hl
        · exact e3 g (by omega) g2 g3
    · rw [if_neg hk]
      obtain ⟨r1, r2, r3, r4⟩ := gR_inv hi c (i + 1) A ch h (by omega)
      refine ⟨r1, r2, r3, fun e => ?_⟩
      obtain ⟨e1, e2, e3⟩ := r4 e
      refine ⟨e1, e2, fun g g1 g2 g3 => ?_⟩
      by_cases hg : g = i
      · subst hg; exact absurd g3 hk
      · exact e3 g (by omega) g2 g3

theorem jR_inv (hi : In n sp js ks) : ∀ (l : List Join) (F : List (Str × Int)) (ch : Bool), InvR n sp js ks F A → (∀ j, j ∈ l → j ∈ js) →
    InvR n sp js ks (jR n sp ks A l F ch).1 A ∧ pot (vR (jR n sp ks A l F ch).1 A) (fsR n js) ≤ pot (vR F A) (fsR n js) ∧
    ((jR n sp ks A l F ch).2 = true → ch = true ∨ pot (vR (jR n sp ks A l F ch).1 A) (fsR n js) < pot (vR F A) (fsR n js)) ∧
    ((jR n sp ks A l F ch).2 = false → ch = false ∧ (jR n sp ks A l F ch).1 = F ∧ ∀ j, j ∈ l → lesser ((kget j.field F).getD 0) (readP n sp ks F A j) = (kget j.field F).getD 0)
  | [], F, ch, h, hc => by
    simp only [jR]
    exact ⟨h, Nat.le_refl _, Or.inl, fun e => ⟨e, trivial, fun j hj => by cases hj⟩⟩
  | j :: r, F, ch, h, hc => by
    have hj := hc j (List.mem_cons_self ..)
    have hg := (hi.jg j hj).1
    have hkl := read_le (js := js) hi h.bd.nn (by omega) h.bd.le h.bd.lt j hg
    obtain ⟨hk1, hk2⟩ := q_read (js := js) hi h.bd.nn h.bd.lt j hg
    have hF0 : 0 ≤ (kget j.field F).getD 0 := h.bd.nn (.inr j.field)
    simp only [jR]
    by_cases hl : lesser ((kget j.field F).getD 0) (readP n sp ks F A j) ≠ (kget j.field F).getD 0
    · rw [if_pos hl]
      have hx := lesser_ne hl hk1
      rw [hx.1]
      obtain ⟨b1, b2⟩ := h.bd.step (i := .inr j.field) (x := readP n sp ks F A j) (by simp only [fsR, List.mem_append, List.mem_map]; exact Or.inr ⟨j, hj, rfl⟩) hx.2.1 hx.2.2 (by omega)
      rw [← vR_setF] at b1 b2
      have hI : InvR n sp js ks (kset j.field (readP n sp ks F A j) F) A := by
        refine ⟨b1, h.la, h.sA, fun f d hq => ?_, h.ss⟩
        rw [kget_kset] at hq
        by_cases hf : f = j.field
        · rw [if_pos hf] at hq
          rw [hf]
          exact .lj j d hj (h.sJ hi j hg d hq)
        · rw [if_neg hf] at hq; exact h.sF f d hq
      obtain ⟨r1, r2, r3, r4⟩ := jR_inv hi r (kset j.field (readP n sp ks F A j) F) true hI (fun x hx => hc x (List.mem_cons_of_mem _ hx))
      refine ⟨r1, by omega, fun _ => Or.inr (by omega), fun e => ?_⟩
      have := (r4 e).1
      cases this
    · rw [if_neg hl]
      obtain ⟨r1, r2, r3, r4⟩ := jR_inv hi r F ch h (fun x hx => hc x (List.mem_cons_of_mem _ hx))
      refine ⟨r1, r2, r3, fun e => ?_⟩
      obtain ⟨e1, e2, e3⟩ := r4 e
      refine ⟨e1, e2, fun j' hj' => ?_⟩
      cases hj' with
      | head => exact Decidable.not_not.1 hl
      | tail _ h => exact e3 j' h

/-- nothing changes any more -/
structure ClR (n : Nat) (sp : List Spot) (js : List Join) (ks : List KeyO) (F : List (Str × Int)) (A : List Int) : Prop where
  cg : ∀ g : Nat, g < n → keyP n F A g ks 0 > 0 → lesser (A.getD g 0) (IntKind.i64.wrap (keyP n F A g ks 0 + 1)) = A.getD g 0
  cj : ∀ j, j ∈ js → lesser ((kget j.field F).getD 0) (readP n sp ks F A j) = (kget j.field F).getD 0

theorem iter_inv (hi : In n sp js ks) : ∀ (m : Nat) (F : List (Str × Int)) (A : List Int), pot (vR F A) (fsR n js) < m → InvR n sp js ks F A →
    ∃ fuel F1 A1, stops n sp js ks fuel F A ∧ iterP n sp js ks fuel F A = (F1, A1) ∧ InvR n sp js ks F1 A1 ∧ ClR n sp js ks F1 A1 ∧ A1.length = A.length
  | 0, F, A, hm, _ => by omega
  | m + 1, F, A, hm, h => by
    obtain ⟨g1, g2, g3, g4⟩ := gR_inv hi n 0 A false h (by omega)
    obtain ⟨j1, j2, j3, j4⟩ := jR_inv hi js F (gR n F ks 0 n A false).2 g1 (fun _ h => h)
    have hlen : ∀ (c i : Nat) (A : List Int) (ch : Bool), (gR n F ks i c A ch).1.length = A.length := by
      intro c
      induction c with
      | zero => intros; rfl
      | succ c ih =>
        intro i A ch
        simp only [gR]
        split
        · split
          · rw [ih]; simp
          · rw [ih]
        · rw [ih]
    by_cases hc : (roundP n sp js ks F A).2.2 = true
    · have hp : pot (vR (roundP n sp js ks F A).1 (roundP n sp js ks F A).2.1) (fsR n js) < pot (vR F A) (fsR n js) := by
        simp only [roundP] at hc ⊢
        rcases j3 hc with e | e
        · rcases g3 e with e | e
          · cases e
          · omega
        · omega
      obtain ⟨fuel, F1, A1, r1, r2, r3, r4, r5⟩ := iter_inv hi m (roundP n sp js ks F A).1 (roundP n sp js ks F A).2.1 (by omega) j1
      refine ⟨fuel + 1, F1, A1, fun _ => r1, ?_, r3, r4, ?_⟩
      · simp only [iterP]; rw [if_pos hc]; exact r2
      · rw [r5]; exact hlen ..
    · have hc' : (jR n sp ks (gR n F ks 0 n A false).1 js F (gR n F ks 0 n A false).2).2 = false := by simpa [roundP] using hc
      obtain ⟨e1, e2, e3⟩ := j4 hc'
      obtain ⟨f1, f2, f3⟩ := g4 e1
      refine ⟨1, F, A, fun e => absurd e hc, ?_, h, ⟨fun g hg => f3 g (Nat.zero_le _) hg, ?_⟩, rfl⟩
      · simp only [iterP]; rw [if_neg hc]
        simp only [roundP, f2] at e2 ⊢
        rw [e2]
      · rw [f2] at e3; exact e3

theorem ans_R (hi : In n sp js ks) (h : InvR n sp js ks F A) (hc : ClR n sp js ks F A) : Ans n sp js ks (fun g => A.getD g 0) (levelP n F A) (readP n sp ks F A) := by
  have hcomp : ∀ x d, Der n sp js ks x d → match x with
      | .a g => ∀ g' : Nat, g = g' → g' < n → Q (A.getD g' 0) d
      | .l f => Q (levelP n F A f) d
      | .j j => j ∈ js → Q (readP n sp ks F A j) d := by
    intro x d hD
    induction hD with
    | spot x hx =>
      intro g' e _
      have := h.ss x hx
      rwa [e, Int.toNat_natCast] at this
    | key k d hk hne hf ih =>
      intro g' e hg'
      obtain ⟨h1, h2⟩ := q_key0 (n := n) (ks := ks) h.bd.nn (g' : Int)
      have hq := (h2 d).2 ⟨k, hk, e, hne, ih⟩
      have hkl := key_le (n := n) (ks := ks) h.bd.nn (by omega) h.bd.lt g'
      have hw : IntKind.i64.wrap (keyP n F A g' ks 0 + 1) = keyP n F A g' ks 0 + 1 := wrap_small (by omega) (by omega)
      have hl := hc.cg g' hg' (by have := hq.1; omega)
      have a1 := hq.1; have a2 := hq.2
      show Q (A.getD g' 0) (d + 1)
      rw [← hl]
      refine (q_lesser (h.bd.nn (.inl g')) (by rw [hw]; omega)).2 (Or.inr ?_)
      rw [hw]; exact ⟨by omega, by omega⟩
    | lj j d hj hD ih =>
      have hl := hc.cj j hj
      refine ((q_level h.bd.nn j.field).2 d).2 (Or.inl ?_)
      rw [← hl]
      exact (q_lesser (h.bd.nn (.inr j.field)) (q_read hi h.bd.nn h.bd.lt j (hi.jg j hj).1).1).2 (Or.inr (ih hj))
    | lt g d hg hD ih => exact ((q_level h.bd.nn tyN).2 d).2 (Or.inr ⟨rfl, g, hg, ih g rfl hg⟩)
    | jx j x he hx hg hf =>
      intro hj
      exact ((q_read hi h.bd.nn h.bd.lt j (hi.jg j hj).1).2 _).2 (Or.inl ⟨he, x, hx, hg, hf, Int.le_refl _⟩)
    | j0 j d he hr hD ih =>
      intro hj
      have := hi.jg j hj
      exact ((q_read hi h.bd.nn h.bd.lt j (hi.jg j hj).1).2 _).2 (Or.inr (Or.inl ⟨he, hr, ih j.graph.toNat (by omega) (by omega)⟩))
    | jr j k d he hr hk hg hne hf hf' ih ih' =>
      intro hj
      refine ((q_read hi h.bd.nn h.bd.lt j (hi.jg j hj).1).2 _).2 (Or.inr (Or.inr ⟨he, hr, ⟨k, hk, hg, hne, ?_⟩, ?_⟩))
      · rw [show d + 1 - 1 = d by omega]; exact ih
      · rw [show d + 1 - 1 = d by omega]; exact ih'
    | up x d e hD hle ih =>
      cases x with
      | a g => exact fun g' e hg' => (ih g' e hg').mono hle
      | l f => exact Q.mono ih hle
      | j j => exact fun hj => (ih hj).mono hle
  exact ⟨fun g _ => h.bd.nn (.inl g), fun f => (q_level h.bd.nn f).1, fun j hj => (q_read hi h.bd.nn h.bd.lt j (hi.jg j hj).1).1,
    fun g hg d => ⟨h.sA g d, fun hD => hcomp _ d hD g rfl hg⟩, fun f d => ⟨h.sL f d, fun hD => hcomp _ d hD⟩, fun j hj d => ⟨h.sJ hi j (hi.jg j hj).1 d, fun hD => hcomp _ d hD hj⟩⟩
end
end Go.GB.C26

/-
  R26S: what fill finds is the least of what can be derived.
-/
namespace Go.GB.C26
open Go.GB
set_option linter.unusedSimpArgs false
set_option linter.unusedVariables false
set_option maxRecDepth 100000

def vT (D A : List Int) : Nat ⊕ Nat → Int
  | .inl g => A.getD g 0
  | .inr i => D.getD i 0
theorem getD_set {A : List Int} {i : Nat} {x : Int} (hi : i < A.length) (g : Nat) : (A.set i x).getD g 0 = if g = i then x else A.getD g 0 := by
  simp only [List.getD_eq_getElem?_getD, List.getElem?_set]
  by_cases h : i = g
  · subst h; simp [hi]
  · have : ¬ g = i := fun e => h e.symm
    simp [h, this]
theorem vT_setA {D A : List Int} {i : Nat} {x : Int} (hi : i < A.length) : vT D (A.set i x) = upd (vT D A) (.inl i) x := by
  funext k
  cases k with
  | inl g => simp only [vT, upd, getD_set hi, Sum.inl.injEq]
  | inr f => simp [vT, upd]
theorem vT_setD {D A : List Int} {i : Nat} {x : Int} (hi : i < D.length) : vT (D.set i x) A = upd (vT D A) (.inr i) x := by
  funext k
  cases k with
  | inl g => simp [vT, upd]
  | inr f => simp only [vT, upd, getD_set hi, Sum.inr.injEq]
def fsT (n : Nat) (js : List Join) : List (Nat ⊕ Nat) := (List.range n).map .inl ++ (List.range js.length).map .inr

section
variable {n : Nat} {sp : List Spot} {js : List Join} {ks : List KeyO} {D A : List Int}

theorem q_foldA (hA : ∀ g, 0 ≤ A.getD g 0) : ∀ (c i : Nat) (b : Int), 0 ≤ b → 0 ≤ foldA A i c b ∧ ∀ d, Q (foldA A i c b) d ↔ Q b d ∨ ∃ g, i ≤ g ∧ g < i + c ∧ Q (A.getD g 0) d
  | 0, i, b, hb => ⟨hb, fun d => by
    simp only [foldA]
    exact ⟨Or.inl, fun h => h.elim id fun ⟨g, h1, h2, _⟩ => by omega⟩⟩
  | c + 1, i, b, hb => by
    obtain ⟨h1, h2⟩ := q_foldA hA c (i + 1) (least b (A.getD i 0)) (nn_least hb (hA i))
    refine ⟨h1, fun d => ?_⟩
    simp only [foldA]
    rw [h2 d, q_least hb (hA i)]
    constructor
    · rintro ((h | h) | ⟨g, g1, g2, g3⟩)
      · exact Or.inl h
      · exact Or.inr ⟨i, by omega, by omega, h⟩
      · exact Or.inr ⟨g, by omega, by omega, g3⟩
    · rintro (h | ⟨g, g1, g2, g3⟩)
      · exact Or.inl (Or.inl h)
      · by_cases e : g = i
        · subst e; exact Or.inl (Or.inr g3)
        · exact Or.inr ⟨g, by omega, by omega, g3⟩
theorem q_foldD (hD : ∀ g, 0 ≤ D.getD g 0) (f : Str) : ∀ (l : List Join) (i : Nat) (b : Int), 0 ≤ b → 0 ≤ foldD D f i l b ∧ ∀ d, Q (foldD D f i l b) d ↔ Q b d ∨ ∃ k j, l[k]? = some j ∧ j.field = f ∧ Q (D.getD (i + k) 0) d
  | [], i, b, hb => ⟨hb, fun d => by simp [foldD]⟩
  | j :: r, i, b, hb => by
    simp only [foldD]
    by_cases hf : j.field = f
    · rw [if_pos hf]
      obtain ⟨h1, h2⟩ := q_foldD hD f r (i + 1) (least b (D.getD i 0)) (nn_least hb (hD i))
      refine ⟨h1, fun d => ?_⟩
      rw [h2 d, q_least hb (hD i)]
      constructor
      · rintro ((h | h) | ⟨k, j', g1, g2, g3⟩)
        · exact Or.inl h
        · exact Or.inr ⟨0, j, rfl, hf, h⟩
        · exact Or.inr ⟨k + 1, j', by simpa using g1, g2, by rwa [show i + (k + 1) = i + 1 + k by omega]⟩
      · rintro (h | ⟨k, j', g1, g2, g3⟩)
        · exact Or.inl (Or.inl h)
        · cases k with
          | zero => exact Or.inl (Or.inr g3)
          | succ k => exact Or.inr ⟨k, j', by simpa using g1, g2, by rwa [show i + 1 + k = i + (k + 1) by omega]⟩
    · rw [if_neg hf]
      obtain ⟨h1, h2⟩ := q_foldD hD f r (i + 1) b hb
      refine ⟨h1, fun d => ?_⟩
      rw [h2 d]
      constructor
      · rintro (h | ⟨k, j', g1, g2, g3⟩)
        · exact Or.inl h
        · exact Or.inr ⟨k + 1, j', by simpa using g1, g2, by rwa [show i + (k + 1) = i + 1 + k by omega]⟩
      · rintro (h | ⟨k, j', g1, g2, g3⟩)
        · exact Or.inl h
        · cases k with
          | zero => simp at g1; subst g1; exact absurd g2 hf
          | succ k => exact Or.inr ⟨k, j', by simpa using g1, g2, by rwa [show i + 1 + k = i + (k + 1) by omega]⟩
/-- what the level of a field follows from -/
def LvT (n : Nat) (js : List Join) (D A : List Int) (f : Str) (d : Int) : Prop :=
  if f = tyN then ∃ g, g < n ∧ Q (A.getD g 0) d else ∃ k j, js[k]? = some j ∧ j.field = f ∧ Q (D.getD k 0) d
theorem q_tlevel (hv : ∀ i, 0 ≤ vT D A i) (f : Str) : 0 ≤ tlevel n js D A f ∧ ∀ d, Q (tlevel n js D A f) d ↔ LvT n js D A f d := by
  simp only [tlevel, LvT]
  by_cases h : f = tyN
  · simp only [if_pos h]
    obtain ⟨h1, h2⟩ := q_foldA (A := A) (fun g => hv (.inl g)) n 0 0 (Int.le_refl 0)
    refine ⟨h1, fun d => ?_⟩
    rw [h2 d]
    constructor
    · rintro (h | ⟨g, _, g2, g3⟩)
      · have := h.1; omega
      · exact ⟨g, by omega, g3⟩
    · rintro ⟨g, g2, g3⟩
      exact Or.inr ⟨g, by omega, by omega, g3⟩
  · simp only [if_neg h]
    obtain ⟨h1, h2⟩ := q_foldD (D := D) (fun g => hv (.inr g)) f js 0 0 (Int.le_refl 0)
    refine ⟨h1, fun d => ?_⟩
    rw [h2 d]
    simp only [Nat.zero_add]
    constructor
    · rintro (h | h)
      · have := h.1; omega
      · exact h
    · exact Or.inr
theorem q_tgreat (hv : ∀ i, 0 ≤ vT D A i) : ∀ (l : List Str) (m : Int), 0 ≤ m → 0 ≤ tgreat n js D A l m ∧ ∀ d, Q (tgreat n js D A l m) d ↔ (l = [] → 1 ≤ m) ∧ m ≤ d ∧ ∀ f, f ∈ l → Q (tlevel n js D A f) d
  | [], m, hm => ⟨hm, fun d => by simp [tgreat, Q]⟩
  | f :: r, m, hm => by
    obtain ⟨h1, h2⟩ := q_tlevel (n := n) (js := js) hv f
    simp only [tgreat]
    by_cases h0 : tlevel n js D A f = 0
    · rw [if_pos h0]
      refine ⟨by omega, fun d => ?_⟩
      constructor
      · intro h; have := h.1; omega
      · rintro ⟨_, _, h⟩
        have := (h f (List.mem_cons_self ..)).1; omega
    · rw [if_neg h0]
      have hx : 0 ≤ (if tlevel n js D A f > m then tlevel n js D A f else m) := by split <;> omega
      obtain ⟨h3, h4⟩ := q_tgreat hv r _ hx
      refine ⟨h3, fun d => ?_⟩
      rw [h4 d]
      constructor
      · rintro ⟨a, b, c⟩
        refine ⟨fun e => (by cases e), by split at b <;> omega, ?_⟩
        intro f' hf'
        cases hf' with
        | head => exact ⟨by omega, by split at b <;> omega⟩
        | tail _ h => exact c f' h
      · rintro ⟨a, b, c⟩
        have h5 := c f (List.mem_cons_self ..)
        have := h5.1; have := h5.2
        refine ⟨fun _ => by split <;> omega, by split <;> omega, fun f' h => c f' (List.mem_cons_of_mem _ h)⟩
theorem q_tgreat0 (hv : ∀ i, 0 ≤ vT D A i) (l : List Str) : 0 ≤ tgreat n js D A l 0 ∧ ∀ d, Q (tgreat n js D A l 0) d ↔ l ≠ [] ∧ ∀ f, f ∈ l → Q (tlevel n js D A f) d := by
  obtain ⟨h1, h2⟩ := q_tgreat (n := n) (js := js) hv l 0 (Int.le_refl 0)
  refine ⟨h1, fun d => ?_⟩
  rw [h2 d]
  constructor
  · rintro ⟨a, b, c⟩
    exact ⟨fun e => by have := a e; omega, c⟩
  · rintro ⟨a, c⟩
    refine ⟨fun e => absurd e a, ?_, c⟩
    cases l with
    | nil => exact absurd rfl a
    | cons f r => have h := c f (List.mem_cons_self ..); have := h.1; have := h.2; omega
theorem q_tkey (hv : ∀ i, 0 ≤ vT D A i) (g : Int) : ∀ (l : List KeyO) (b : Int), 0 ≤ b → 0 ≤ tkey n js D A g l b ∧ ∀ d, Q (tkey n js D A g l b) d ↔ Q b d ∨ ∃ k, k ∈ l ∧ k.graph = g ∧ k.fields ≠ [] ∧ ∀ f, f ∈ k.fields → Q (tlevel n js D A f) d
  | [], b, hb => ⟨hb, fun d => by simp [tkey]⟩
  | k :: r, b, hb => by
    obtain ⟨h1, h2⟩ := q_tgreat0 (n := n) (js := js) hv k.fields
    simp only [tkey]
    by_cases hg : k.graph = g
    · rw [if_pos hg]
      obtain ⟨h3, h4⟩ := q_tkey hv g r (least b (tgreat n js D A k.fields 0)) (nn_least hb h1)
      refine ⟨h3, fun d => ?_⟩
      rw [h4 d, q_least hb h1, h2 d]
      constructor
      · rintro ((h | h) | ⟨k', a, b, c⟩)
        · exact Or.inl h
        · exact Or.inr ⟨k, List.mem_cons_self .., hg, h⟩
        · exact Or.inr ⟨k', List.mem_cons_of_mem _ a, b, c⟩
      · rintro (h | ⟨k', a, b, c⟩)
        · exact Or.inl (Or.inl h)
        · cases a with
          | head => exact Or.inl (Or.inr c)
          | tail _ a => exact Or.inr ⟨k', a, b, c⟩
    · rw [if_neg hg]
      obtain ⟨h3, h4⟩ := q_tkey hv g r b hb
      refine ⟨h3, fun d => ?_⟩
      rw [h4 d]
      constructor
      · rintro (h | ⟨k', a, b, c⟩)
        · exact Or.inl h
        · exact Or.inr ⟨k', List.mem_cons_of_mem _ a, b, c⟩
      · rintro (h | ⟨k', a, b, c⟩)
        · exact Or.inl h
        · cases a with
          | head => exact absurd b hg
          | tail _ a => exact Or.inr ⟨k', a, b, c⟩
theorem q_tkey0 (hv : ∀ i, 0 ≤ vT D A i) (g : Int) : 0 ≤ tkey n js D A g ks 0 ∧ ∀ d, Q (tkey n js D A g ks 0) d ↔ ∃ k, k ∈ ks ∧ k.graph = g ∧ k.fields ≠ [] ∧ ∀ f, f ∈ k.fields → Q (tlevel n js D A f) d := by
  obtain ⟨h1, h2⟩ := q_tkey (n := n) (js := js) hv g ks 0 (Int.le_refl 0)
  refine ⟨h1, fun d => ?_⟩
  rw [h2 d]
  exact ⟨fun h => h.elim (fun h => by have := h.1; omega) id, Or.inr⟩
theorem q_tprov (j : Join) : ∀ (l : List Spot) (b : Int), 0 ≤ b → (∀ x, x ∈ l → 1 ≤ x.depth) → 0 ≤ tprov j l b ∧ ∀ d, Q (tprov j l b) d ↔ Q b d ∨ ∃ x, x ∈ l ∧ x.graph = j.graph ∧ j.field ∈ x.prov ∧ x.depth ≤ d
  | [], b, hb, _ => ⟨hb, fun d => by simp [tprov]⟩
  | x :: r, b, hb, hx => by
    have h1 := hx x (List.mem_cons_self ..)
    simp only [tprov]
    by_cases hg : (x.graph == j.graph && decide (j.field ∈ x.prov)) = true
    · rw [if_pos hg]
      obtain ⟨h3, h4⟩ := q_tprov j r (least b x.depth) (nn_least hb (by omega)) (fun y hy => hx y (List.mem_cons_of_mem _ hy))
      refine ⟨h3, fun d => ?_⟩
      have hg' : x.graph = j.graph ∧ j.field ∈ x.prov := by simpa using hg
      rw [h4 d, q_least hb (by omega)]
      constructor
      · rintro ((h | h) | ⟨k', a, b, c⟩)
        · exact Or.inl h
        · exact Or.inr ⟨x, List.mem_cons_self .., hg'.1, hg'.2, h.2⟩
        · exact Or.inr ⟨k', List.mem_cons_of_mem _ a, b, c⟩
      · rintro (h | ⟨k', a, b, c, e⟩)
        · exact Or.inl (Or.inl h)
        · cases a with
          | head => exact Or.inl (Or.inr ⟨h1, e⟩)
          | tail _ a => exact Or.inr ⟨k', a, b, c, e⟩
    · rw [if_neg hg]
      obtain ⟨h3, h4⟩ := q_tprov j r b hb (fun y hy => hx y (List.mem_cons_of_mem _ hy))
      refine ⟨h3, fun d => ?_⟩
      rw [h4 d]
      constructor
      · rintro (h | ⟨k', a, b, c⟩)
        · exact Or.inl h
        · exact Or.inr ⟨k', List.mem_cons_of_mem _ a, b, c⟩
      · rintro (h | ⟨k', a, b, c, e⟩)
        · exact Or.inl h
        · cases a with
          | head => exact absurd (by simp [b, c]) hg
          | tail _ a => exact Or.inr ⟨k', a, b, c, e⟩
theorem q_tspot (g : Int) : ∀ (l : List Spot) (b : Int), 0 ≤ b → (∀ x, x ∈ l → 1 ≤ x.depth) → 0 ≤ tspot g l b ∧ ∀ d, Q (tspot g l b) d ↔ Q b d ∨ ∃ x, x ∈ l ∧ x.graph = g ∧ x.depth ≤ d
  | [], b, hb, _ => ⟨hb, fun d => by simp [tspot]⟩
  | x :: r, b, hb, hx => by
    have h1 := hx x (List.mem_cons_self ..)
    simp only [tspot]
    by_cases hg : x.graph = g
    · rw [if_pos hg]
      obtain ⟨h3, h4⟩ := q_tspot g r (least b x.depth) (nn_least hb (by omega)) (fun y hy => hx y (List.mem_cons_of_mem _ hy))
      refine ⟨h3, fun d => ?_⟩
      rw [h4 d, q_least hb (by omega)]
      constructor
      · rintro ((h | h) | ⟨k', a, b, c⟩)
        · exact Or.inl h
        · exact Or.inr ⟨x, List.mem_cons_self .., hg, h.2⟩
        · exact Or.inr ⟨k', List.mem_cons_of_mem _ a, b, c⟩
      · rintro (h | ⟨k', a, b, c⟩)
        · exact Or.inl (Or.inl h)
        · cases a with
          | head => exact Or.inl (Or.inr ⟨h1, c⟩)
          | tail _ a => exact Or.inr ⟨k', a, b, c⟩
    · rw [if_neg hg]
      obtain ⟨h3, h4⟩ := q_tspot g r b hb (fun y hy => hx y (List.mem_cons_of_mem _ hy))
      refine ⟨h3, fun d => ?_⟩
      rw [h4 d]
      constructor
      · rintro (h | ⟨k', a, b, c⟩)
        · exact Or.inl h
        · exact Or.inr ⟨k', List.mem_cons_of_mem _ a, b, c⟩
      · rintro (h | ⟨k', a, b, c⟩)
        · exact Or.inl h
        · cases a with
          | head => exact absurd b hg
          | tail _ a => exact Or.inr ⟨k', a, b, c⟩

theorem LvT.le {B : Int} (hB : ∀ i, vT D A i ≤ B) {f : Str} {d : Int} (h : LvT n js D A f d) : LvT n js D A f B := by
  simp only [LvT] at h ⊢
  split at h
  · rw [if_pos ‹_›]; obtain ⟨g, a, b⟩ := h; exact ⟨g, a, b.1, hB (.inl g)⟩
  · rw [if_neg ‹_›]; obtain ⟨g, j, a, c, b⟩ := h; exact ⟨g, j, a, c, b.1, hB (.inr g)⟩
theorem tlevel_le {B : Int} (hv : ∀ i, 0 ≤ vT D A i) (hB : ∀ i, vT D A i ≤ B) (f : Str) (d : Int) (hq : Q (tlevel n js D A f) d) : Q (tlevel n js D A f) B :=
  ((q_tlevel hv f).2 B).2 (LvT.le hB (((q_tlevel hv f).2 d).1 hq))
theorem tkey_le {B : Int} (hv : ∀ i, 0 ≤ vT D A i) (h0 : 0 ≤ B) (hB : ∀ i, vT D A i ≤ B) (g : Int) : tkey n js D A g ks 0 ≤ B := by
  by_cases h : tkey n js D A g ks 0 = 0
  · omega
  · obtain ⟨h1, h2⟩ := q_tkey0 (n := n) (js := js) (ks := ks) hv g
    obtain ⟨k, a, b, c, e⟩ := (h2 (tkey n js D A g ks 0)).1 ⟨by omega, by omega⟩
    exact ((h2 B).2 ⟨k, a, b, c, fun f hf => tlevel_le hv hB f _ (e f hf)⟩).2
theorem tgreat_le {B : Int} (hv : ∀ i, 0 ≤ vT D A i) (h0 : 0 ≤ B) (hB : ∀ i, vT D A i ≤ B) (l : List Str) : tgreat n js D A l 0 ≤ B := by
  by_cases h : tgreat n js D A l 0 = 0
  · omega
  · obtain ⟨h1, h2⟩ := q_tgreat0 (n := n) (js := js) hv l
    obtain ⟨a, e⟩ := (h2 (tgreat n js D A l 0)).1 ⟨by omega, by omega⟩
    exact ((h2 B).2 ⟨a, fun f hf => tlevel_le hv hB f _ (e f hf)⟩).2

/-- what the number of a graph follows from -/
def GrT (n : Nat) (js : List Join) (ks : List KeyO) (sp : List Spot) (D A : List Int) (g : Int) (d : Int) : Prop :=
  (∃ x, x ∈ sp ∧ x.graph = g ∧ x.depth ≤ d) ∨ ∃ k, k ∈ ks ∧ k.graph = g ∧ k.fields ≠ [] ∧ ∀ f, f ∈ k.fields → LvT n js D A f (d - 1)
theorem q_tgraph (hi : In n sp js ks) (hv : ∀ i, 0 ≤ vT D A i) (hB : ∀ i, vT D A i ≤ 1099512627776) (g : Int) : 0 ≤ tgraph n js ks sp D A g ∧ ∀ d, Q (tgraph n js ks sp D A g) d ↔ GrT n js ks sp D A g d := by
  obtain ⟨h1, h2⟩ := q_tspot g sp 0 (Int.le_refl 0) (fun x hx => (hi.sg x hx).2.2.1)
  obtain ⟨h3, h4⟩ := q_tkey0 (n := n) (js := js) (ks := ks) hv g
  have h5 := tkey_le (n := n) (js := js) (ks := ks) hv (by omega) hB g
  have h6 : ∀ d, Q (tkey n js D A g ks 0) d ↔ ∃ k, k ∈ ks ∧ k.graph = g ∧ k.fields ≠ [] ∧ ∀ f, f ∈ k.fields → LvT n js D A f d := by
    intro d; rw [h4 d]; simp only [(q_tlevel hv _).2 d]
  have h7 : ∀ d, Q (tspot g sp 0) d ↔ ∃ x, x ∈ sp ∧ x.graph = g ∧ x.depth ≤ d := by
    intro d; rw [h2 d]
    exact ⟨fun h => h.elim (fun h => by have := h.1; omega) id, Or.inr⟩
  simp only [tgraph, GrT]
  by_cases hk : tkey n js D A g ks 0 > 0
  · rw [if_pos hk, wrap_small (by omega) (by omega)]
    refine ⟨nn_least h1 (by omega), fun d => ?_⟩
    rw [q_least h1 (by omega), h7 d, ← h6 (d - 1)]
    refine or_congr Iff.rfl ?_
    simp only [Q]; omega
  · rw [if_neg hk]
    refine ⟨h1, fun d => ?_⟩
    rw [h7 d, ← h6 (d - 1)]
    refine ⟨Or.inl, fun h => h.elim id fun h => ?_⟩
    have := h.1; omega
/-- what the number of a join follows from -/
def JnT (n : Nat) (js : List Join) (ks : List KeyO) (sp : List Spot) (D A : List Int) (j : Join) (d : Int) : Prop :=
  (j.ext = true ∧ ∃ x, x ∈ sp ∧ x.graph = j.graph ∧ j.field ∈ x.prov ∧ x.depth ≤ d) ∨
  (j.ext = false ∧ j.req = [] ∧ GrT n js ks sp D A j.graph d) ∨
  (j.ext = false ∧ j.req ≠ [] ∧ (∃ k, k ∈ ks ∧ k.graph = j.graph ∧ k.fields ≠ [] ∧ ∀ f, f ∈ k.fields → LvT n js D A f (d - 1)) ∧ ∀ f, f ∈ j.req → LvT n js D A f (d - 1))
theorem q_tjoin (hi : In n sp js ks) (hv : ∀ i, 0 ≤ vT D A i) (hB : ∀ i, vT D A i ≤ 1099512627776) (j : Join) : 0 ≤ tjoin n js ks sp D A j ∧ ∀ d, Q (tjoin n js ks sp D A j) d ↔ JnT n js ks sp D A j d := by
  simp only [tjoin, JnT]
  by_cases he : j.ext = true
  · rw [if_pos he]
    obtain ⟨h1, h2⟩ := q_tprov j sp 0 (Int.le_refl 0) (fun x hx => (hi.sg x hx).2.2.1)
    refine ⟨h1, fun d => ?_⟩
    rw [h2 d]
    simp only [he, true_and]
    constructor
    · rintro (h | h)
      · have := h.1; omega
      · exact Or.inl h
    · rintro (h | h | h)
      · exact Or.inr h
      · exact absurd h.1 (by simp)
      · exact absurd h.1 (by simp)
  · rw [if_neg he]
    have he' : j.ext = false := by simpa using he
    by_cases hr : j.req.length = 0
    · rw [if_pos hr]
      have hr' : j.req = [] := List.length_eq_zero_iff.1 hr
      obtain ⟨h1, h2⟩ := q_tgraph hi hv hB j.graph
      refine ⟨h1, fun d => ?_⟩
      rw [h2 d]
      simp [he', hr']
    · rw [if_neg hr]
      have hr' : j.req ≠ [] := fun e => hr (by rw [e]; rfl)
      obtain ⟨h1, h2⟩ := q_tkey0 (n := n) (js := js) (ks := ks) hv j.graph
      obtain ⟨h3, h4⟩ := q_tgreat0 (n := n) (js := js) hv j.req
      have h5 := tkey_le (n := n) (js := js) (ks := ks) hv (by omega) hB j.graph
      have h6 := tgreat_le (n := n) (js := js) hv (by omega) hB j.req
      simp only [(q_tlevel hv _).2 _] at h2 h4
      by_cases hz : (tkey n js D A j.graph ks 0 == 0 || tgreat n js D A j.req 0 == 0) = true
      · rw [if_pos hz]
        refine ⟨Int.le_refl 0, fun d => ?_⟩
        constructor
        · intro h; have := h.1; omega
        · rintro (h | h | ⟨_, _, h7, h8⟩)
          · exact absurd h.1 he
          · exact absurd h.2.1 hr'
          · have a := ((h2 (d - 1)).2 h7).1
            have b := ((h4 (d - 1)).2 ⟨hr', h8⟩).1
            simp at hz; omega
      · rw [if_neg hz]
        simp at hz
        rw [wrap_small (by split <;> omega) (by split <;> omega)]
        refine ⟨by split <;> omega, fun d => ?_⟩
        constructor
        · intro h
          refine Or.inr (Or.inr ⟨he', hr', (h2 (d - 1)).1 ⟨by omega, ?_⟩, ((h4 (d - 1)).1 ⟨by omega, ?_⟩).2⟩)
          · have := h.2; split at this <;> omega
          · have := h.2; split at this <;> omega
        · rintro (h | h | ⟨_, _, h7, h8⟩)
          · exact absurd h.1 he
          · exact absurd h.2.1 hr'
          · have a := ((h2 (d - 1)).2 h7).2
            have b := ((h4 (d - 1)).2 ⟨hr', h8⟩).2
            exact ⟨by split <;> omega, by split <;> omega⟩

/-- b says at least as much as a -/
def Dn (a b : List Int) : Prop := ∀ i d, Q (a.getD i 0) d → Q (b.getD i 0) d
theorem Dn.refl (a : List Int) : Dn a a := fun _ _ h => h
theorem LvT.mono {D' A' : List Int} (hD : Dn D D') (hA : Dn A A') {f : Str} {d e : Int} (he : d ≤ e) (h : LvT n js D A f d) : LvT n js D' A' f e := by
  simp only [LvT] at h ⊢
  split at h
  · rw [if_pos ‹_›]; obtain ⟨g, a, b⟩ := h; exact ⟨g, a, (hA _ _ b).mono he⟩
  · rw [if_neg ‹_›]; obtain ⟨g, j, a, c, b⟩ := h; exact ⟨g, j, a, c, (hD _ _ b).mono he⟩
theorem GrT.mono {D' A' : List Int} (hD : Dn D D') (hA : Dn A A') {g : Int} {d e : Int} (he : d ≤ e) (h : GrT n js ks sp D A g d) : GrT n js ks sp D' A' g e := by
  rcases h with ⟨x, a, b, c⟩ | ⟨k, a, b, c, f⟩
  · exact Or.inl ⟨x, a, b, by omega⟩
  · exact Or.inr ⟨k, a, b, c, fun x hx => (f x hx).mono hD hA (by omega)⟩
theorem JnT.mono {D' A' : List Int} (hD : Dn D D') (hA : Dn A A') {j : Join} {d e : Int} (he : d ≤ e) (h : JnT n js ks sp D A j d) : JnT n js ks sp D' A' j e := by
  rcases h with ⟨a, x, b, c, f, g⟩ | ⟨a, b, c⟩ | ⟨a, b, ⟨k, c, f, g, h⟩, h'⟩
  · exact Or.inl ⟨a, x, b, c, f, by omega⟩
  · exact Or.inr (Or.inl ⟨a, b, c.mono hD hA he⟩)
  · exact Or.inr (Or.inr ⟨a, b, ⟨k, c, f, g, fun x hx => (h x hx).mono hD hA (by omega)⟩, fun x hx => (h' x hx).mono hD hA (by omega)⟩)
theorem Dn.set {a : List Int} {i : Nat} {x : Int} (hi : i < a.length) (h : ∀ d, Q (a.getD i 0) d → Q x d) : Dn a (a.set i x) := by
  intro k d hq
  rw [getD_set hi]
  by_cases e : k = i
  · rw [if_pos e]; rw [e] at hq; exact h d hq
  · rw [if_neg e]; exact hq

/-- the reference's numbers while they are looked for -/
structure InvT (n : Nat) (sp : List Spot) (js : List Join) (ks : List KeyO) (D A : List Int) : Prop where
  bd : Bd (fsT n js) (vT D A)
  ld : D.length = js.length
  la : A.length = n
  sA : ∀ (g : Nat) d, Q (A.getD g 0) d → Der n sp js ks (.a g) d
  sD : ∀ i j, js[i]? = some j → ∀ d, Q (D.getD i 0) d → Der n sp js ks (.j j) d
  dA : ∀ (g : Nat) d, Q (A.getD g 0) d → GrT n js ks sp D A g d
  dD : ∀ i j, js[i]? = some j → ∀ d, Q (D.getD i 0) d → JnT n js ks sp D A j d

theorem InvT.sL (h : InvT n sp js ks D A) (f : Str) (d : Int) (hq : LvT n js D A f d) : Der n sp js ks (.l f) d := by
  simp only [LvT] at hq
  split at hq
  · next e => obtain ⟨g, a, b⟩ := hq; rw [e]; exact .lt g d a (h.sA g d b)
  · obtain ⟨g, j, a, c, b⟩ := hq
    rw [← c]
    exact .lj j d (List.mem_of_getElem? a) (h.sD g j a d b)
theorem InvT.sG (h : InvT n sp js ks D A) (g : Int) (d : Int) (hq : GrT n js ks sp D A g d) : Der n sp js ks (.a g) d := by
  rcases hq with ⟨x, a, b, c⟩ | ⟨k, a, b, c, f⟩
  · rw [← b]; exact .up _ _ _ (.spot x a) c
  · have := Der.key (n := n) (sp := sp) (js := js) k (d - 1) a c (fun x hx => h.sL x _ (f x hx))
    rwa [show d - 1 + 1 = d by omega, b] at this
theorem InvT.sJ (h : InvT n sp js ks D A) (j : Join) (d : Int) (hq : JnT n js ks sp D A j d) : Der n sp js ks (.j j) d := by
  rcases hq with ⟨a, x, b, c, e, f⟩ | ⟨a, b, c⟩ | ⟨a, b, ⟨k, c, e, f, g⟩, g'⟩
  · exact .up _ _ _ (.jx j x a b c e) f
  · exact .j0 j d a b (h.sG _ _ c)
  · have := Der.jr (n := n) (sp := sp) (js := js) (ks := ks) j k (d - 1) a b c e f (fun x hx => h.sL x _ (g x hx)) (fun x hx => h.sL x _ (g' x hx))
    rwa [show d - 1 + 1 = d by omega] at this

theorem LvT.pos (hv : ∀ i, 0 ≤ vT D A i) {f : Str} {d : Int} (h : LvT n js D A f d) : 1 ≤ d := by
  have h5 := ((q_tlevel (n := n) (js := js) hv f).2 d).2 h
  have := h5.1; have := h5.2; omega
theorem tgraph_B (hi : In n sp js ks) (hv : ∀ i, 0 ≤ vT D A i) {B : Int} (h0 : 1099511627776 ≤ B) (hB : ∀ i, vT D A i ≤ B) (hB2 : ∀ i, vT D A i ≤ 1099512627776) (g : Int) : tgraph n js ks sp D A g ≤ B + 1 := by
  obtain ⟨h1, h2⟩ := q_tgraph hi hv hB2 g
  by_cases h : tgraph n js ks sp D A g = 0
  · omega
  · refine ((h2 (B + 1)).2 ?_).2
    rcases (h2 (tgraph n js ks sp D A g)).1 ⟨by omega, by omega⟩ with ⟨x, a, b, c⟩ | ⟨k, a, b, c, f⟩
    · exact Or.inl ⟨x, a, b, by have := (hi.sg x a).2.2.2; omega⟩
    · exact Or.inr ⟨k, a, b, c, fun x hx => (LvT.le hB (f x hx)).mono (Dn.refl _) (Dn.refl _) (by omega)⟩
theorem tjoin_B (hi : In n sp js ks) (hv : ∀ i, 0 ≤ vT D A i) {B : Int} (h0 : 1099511627776 ≤ B) (hB : ∀ i, vT D A i ≤ B) (hB2 : ∀ i, vT D A i ≤ 1099512627776) (j : Join) : tjoin n js ks sp D A j ≤ B + 1 := by
  obtain ⟨h1, h2⟩ := q_tjoin hi hv hB2 j
  by_cases h : tjoin n js ks sp D A j = 0
  · omega
  · refine ((h2 (B + 1)).2 ?_).2
    rcases (h2 (tjoin n js ks sp D A j)).1 ⟨by omega, by omega⟩ with ⟨a, x, b, c, d, e⟩ | ⟨a, b, c⟩ | ⟨a, b, ⟨k, c, d, e, f⟩, g⟩
    · exact Or.inl ⟨a, x, b, c, d, by have := (hi.sg x b).2.2.2; omega⟩
    · refine Or.inr (Or.inl ⟨a, b, ?_⟩)
      rcases c with ⟨x, a, b, c⟩ | ⟨k, a, b, c, f⟩
      · exact Or.inl ⟨x, a, b, by have := (hi.sg x a).2.2.2; omega⟩
      · exact Or.inr ⟨k, a, b, c, fun x hx => (LvT.le hB (f x hx)).mono (Dn.refl _) (Dn.refl _) (by omega)⟩
    · refine Or.inr (Or.inr ⟨a, b, ⟨k, c, d, e, fun x hx => ?_⟩, fun x hx => ?_⟩)
      · exact (LvT.le hB (f x hx)).mono (Dn.refl _) (Dn.refl _) (by omega)
      · exact (LvT.le hB (g x hx)).mono (Dn.refl _) (Dn.refl _) (by omega)

theorem InvT.setD (hi : In n sp js ks) (h : InvT n sp js ks D A) {i : Nat} {j : Join} (hj : js[i]? = some j) (hne : tjoin n js ks sp D A j ≠ D.getD i 0) :
    InvT n sp js ks (D.set i (tjoin n js ks sp D A j)) A ∧ pot (vT (D.set i (tjoin n js ks sp D A j)) A) (fsT n js) < pot (vT D A) (fsT n js) := by
  have hiL : i < js.length := by
    rcases Nat.lt_or_ge i js.length with h | h
    · exact h
    · rw [List.getElem?_eq_none h] at hj; cases hj
  have hiD : i < D.length := by rw [h.ld]; exact hiL
  obtain ⟨h1, h2⟩ := q_tjoin hi h.bd.nn h.bd.lt j
  have hB := tjoin_B hi h.bd.nn (by omega) h.bd.le h.bd.lt j
  have hnn : 0 ≤ D.getD i 0 := h.bd.nn (.inr i)
  have hc : D.getD i 0 = 0 ∨ (0 < tjoin n js ks sp D A j ∧ tjoin n js ks sp D A j < D.getD i 0) := by
    by_cases e : D.getD i 0 = 0
    · exact Or.inl e
    · have := (h2 _).2 (h.dD i j hj (D.getD i 0) ⟨by omega, by omega⟩)
      have a := this.1; have b := this.2
      exact Or.inr ⟨by omega, by omega⟩
  have hdn : Dn D (D.set i (tjoin n js ks sp D A j)) := Dn.set hiD fun d hq => (h2 d).2 (h.dD i j hj d hq)
  obtain ⟨b1, b2⟩ := h.bd.step (i := .inr i) (x := tjoin n js ks sp D A j) (by simp [fsT]; exact hiL) (by omega) (by simp only [vT]; omega) (by omega)
  rw [← vT_setD hiD] at b1 b2
  refine ⟨⟨b1, by rw [List.length_set]; exact h.ld, h.la, h.sA, fun k y hk d hq => ?_, fun g d hq => (h.dA g d hq).mono hdn (Dn.refl _) (Int.le_refl _), fun k y hk d hq => ?_⟩, b2⟩
  · rw [getD_set hiD] at hq
    by_cases e : k = i
    · rw [if_pos e] at hq
      rw [e, hj] at hk; cases hk
      exact h.sJ j d ((h2 d).1 hq)
    · rw [if_neg e] at hq; exact h.sD k y hk d hq
  · rw [getD_set hiD] at hq
    by_cases e : k = i
    · rw [if_pos e] at hq
      rw [e, hj] at hk; cases hk
      exact ((h2 d).1 hq).mono hdn (Dn.refl _) (Int.le_refl _)
    · rw [if_neg e] at hq; exact (h.dD k y hk d hq).mono hdn (Dn.refl _) (Int.le_refl _)
theorem InvT.setA (hi : In n sp js ks) (h : InvT n sp js ks D A) {i : Nat} (hin : i < n) (hne : tgraph n js ks sp D A i ≠ A.getD i 0) :
    InvT n sp js ks D (A.set i (tgraph n js ks sp D A i)) ∧ pot (vT D (A.set i (tgraph n js ks sp D A i))) (fsT n js) < pot (vT D A) (fsT n js) := by
  have hiA : i < A.length := by rw [h.la]; exact hin
  obtain ⟨h1, h2⟩ := q_tgraph hi h.bd.nn h.bd.lt (i : Int)
  have hB := tgraph_B hi h.bd.nn (by omega) h.bd.le h.bd.lt (i : Int)
  have hnn : 0 ≤ A.getD i 0 := h.bd.nn (.inl i)
  have hc : A.getD i 0 = 0 ∨ (0 < tgraph n js ks sp D A i ∧ tgraph n js ks sp D A i < A.getD i 0) := by
    by_cases e : A.getD i 0 = 0
    · exact Or.inl e
    · have := (h2 _).2 (h.dA i (A.getD i 0) ⟨by omega, by omega⟩)
      have a := this.1; have b := this.2
      exact Or.inr ⟨by omega, by omega⟩
  have hdn : Dn A (A.set i (tgraph n js ks sp D A i)) := Dn.set hiA fun d hq => (h2 d).2 (h.dA i d hq)
  obtain ⟨b1, b2⟩ := h.bd.step (i := .inl i) (x := tgraph n js ks sp D A i) (by simp [fsT]; exact hin) (by omega) (by simp only [vT]; omega) (by omega)
  rw [← vT_setA hiA] at b1 b2
  refine ⟨⟨b1, h.ld, by rw [List.length_set]; exact h.la, fun g d hq => ?_, h.sD, fun g d hq => ?_, fun k y hk d hq => (h.dD k y hk d hq).mono (Dn.refl _) hdn (Int.le_refl _)⟩, b2⟩
  · rw [getD_set hiA] at hq
    by_cases e : g = i
    · rw [if_pos e] at hq
      rw [e]
      exact h.sG i d ((h2 d).1 hq)
    · rw [if_neg e] at hq; exact h.sA g d hq
  · rw [getD_set hiA] at hq
    by_cases e : g = i
    · rw [if_pos e] at hq
      rw [e]
      exact ((h2 d).1 hq).mono (Dn.refl _) hdn (Int.le_refl _)
    · rw [if_neg e] at hq; exact (h.dA g d hq).mono (Dn.refl _) hdn (Int.le_refl _)

theorem dR_inv (hi : In n sp js ks) : ∀ (l : List Join) (i : Nat) (D : List Int) (ch : Bool), InvT n sp js ks D A → (∀ k j, l[k]? = some j → js[i + k]? = some j) →
    InvT n sp js ks (dR n js ks sp A i l D ch).1 A ∧ pot (vT (dR n js ks sp A i l D ch).1 A) (fsT n js) ≤ pot (vT D A) (fsT n js) ∧
    ((dR n js ks sp A i l D ch).2 = true → ch = true ∨ pot (vT (dR n js ks sp A i l D ch).1 A) (fsT n js) < pot (vT D A) (fsT n js)) ∧
    ((dR n js ks sp A i l D ch).2 = false → ch = false ∧ (dR n js ks sp A i l D ch).1 = D ∧ ∀ k j, l[k]? = some j → tjoin n js ks sp D A j = D.getD (i + k) 0)
  | [], i, D, ch, h, hc => by
    simp only [dR]
    exact ⟨h, Nat.le_refl _, Or.inl, fun e => ⟨e, trivial, fun k j hj => by simp at hj⟩⟩
  | j :: r, i, D, ch, h, hc => by
    have hj : js[i]? = some j := hc 0 j rfl
    have hr : ∀ k j, r[k]? = some j → js[i + 1 + k]? = some j := fun k y hk => by
      rw [show i + 1 + k = i + (k + 1) by omega]; exact hc (k + 1) y (by simpa using hk)
    simp only [dR]
    by_cases hl : tjoin n js ks sp D A j ≠ D.getD i 0
    · rw [if_pos hl]
      obtain ⟨hI, hp⟩ := h.setD hi hj hl
      obtain ⟨r1, r2, r3, r4⟩ := dR_inv hi r (i + 1) _ true hI hr
      refine ⟨r1, by omega, fun _ => Or.inr (by omega), fun e => ?_⟩
      have := (r4 e).1
      cases this
    · rw [if_neg hl]
      obtain ⟨r1, r2, r3, r4⟩ := dR_inv hi r (i + 1) D ch h hr
      refine ⟨r1, r2, r3, fun e => ?_⟩
      obtain ⟨e1, e2, e3⟩ := r4 e
      refine ⟨e1, e2, fun k y hk => ?_⟩
      cases k with
      | zero => simp at hk; subst hk; exact Decidable.not_not.1 hl
      | succ k => rw [show i + (k + 1) = i + 1 + k by omega]; exact e3 k y (by simpa using hk)
theorem aR_inv (hi : In n sp js ks) : ∀ (c i : Nat) (A : List Int) (ch : Bool), InvT n sp js ks D A → i + c = n →
    InvT n sp js ks D (aR n js ks sp D i c A ch).1 ∧ pot (vT D (aR n js ks sp D i c A ch).1) (fsT n js) ≤ pot (vT D A) (fsT n js) ∧
    ((aR n js ks sp D i c A ch).2 = true → ch = true ∨ pot (vT D (aR n js ks sp D i c A ch).1) (fsT n js) < pot (vT D A) (fsT n js)) ∧
    ((aR n js ks sp D i c A ch).2 = false → ch = false ∧ (aR n js ks sp D i c A ch).1 = A ∧ ∀ g : Nat, i ≤ g → g < n → tgraph n js ks sp D A g = A.getD g 0)
  | 0, i, A, ch, h, hc => by
    simp only [aR]
    exact ⟨h, Nat.le_refl _, Or.inl, fun e => ⟨e, trivial, fun g g1 g2 => by omega⟩⟩
  | c + 1, i, A, ch, h, hc => by
    simp only [aR]
    by_cases hl : tgraph n js ks sp D A i ≠ A.getD i 0
    · rw [if_pos hl]
      obtain ⟨hI, hp⟩ := h.setA hi (by omega) hl
      obtain ⟨r1, r2, r3, r4⟩ := aR_inv hi c (i + 1) _ true hI (by omega)
      refine ⟨r1, by omega, fun _ => Or.inr (by omega), fun e => ?_⟩
      have := (r4 e).1
      cases this
    · rw [if_neg hl]
      obtain ⟨r1, r2, r3, r4⟩ := aR_inv hi c (i + 1) A ch h (by omega)
      refine ⟨r1, r2, r3, fun e => ?_⟩
      obtain ⟨e1, e2, e3⟩ := r4 e
      refine ⟨e1, e2, fun g g1 g2 => ?_⟩
      by_cases hg : g = i
      · subst hg; exact Decidable.not_not.1 hl
      · exact e3 g (by omega) g2

structure ClT (n : Nat) (sp : List Spot) (js : List Join) (ks : List KeyO) (D A : List Int) : Prop where
  cd : ∀ i j, js[i]? = some j → tjoin n js ks sp D A j = D.getD i 0
  ca : ∀ g : Nat, g < n → tgraph n js ks sp D A g = A.getD g 0

theorem iterT_inv (hi : In n sp js ks) : ∀ (m : Nat) (D A : List Int), pot (vT D A) (fsT n js) < m → InvT n sp js ks D A →
    ∃ fuel D1 A1, stopsT n js ks sp fuel D A ∧ iterT n js ks sp fuel D A = (D1, A1) ∧ InvT n sp js ks D1 A1 ∧ ClT n sp js ks D1 A1
  | 0, D, A, hm, _ => by omega
  | m + 1, D, A, hm, h => by
    obtain ⟨g1, g2, g3, g4⟩ := dR_inv hi js 0 D false h (fun k j hk => by rw [Nat.zero_add]; exact hk)
    obtain ⟨j1, j2, j3, j4⟩ := aR_inv hi n 0 A (dR n js ks sp A 0 js D false).2 g1 (by omega)
    by_cases hc : (tround n js ks sp D A).2.2 = true
    · have hp : pot (vT (tround n js ks sp D A).1 (tround n js ks sp D A).2.1) (fsT n js) < pot (vT D A) (fsT n js) := by
        simp only [tround] at hc ⊢
        rcases j3 hc with e | e
        · rcases g3 e with e | e
          · cases e
          · omega
        · omega
      obtain ⟨fuel, F1, A1, r1, r2, r3, r4⟩ := iterT_inv hi m (tround n js ks sp D A).1 (tround n js ks sp D A).2.1 (by omega) j1
      refine ⟨fuel + 1, F1, A1, fun _ => r1, ?_, r3, r4⟩
      simp only [iterT]; rw [if_pos hc]; exact r2
    · have hc' : (aR n js ks sp (dR n js ks sp A 0 js D false).1 0 n A (dR n js ks sp A 0 js D false).2).2 = false := by simpa [tround] using hc
      obtain ⟨e1, e2, e3⟩ := j4 hc'
      obtain ⟨f1, f2, f3⟩ := g4 e1
      refine ⟨1, D, A, fun e => absurd e hc, ?_, h, ⟨fun i j hj => ?_, fun g hg => ?_⟩⟩
      · simp only [iterT]; rw [if_neg hc]
        simp only [tround, f2] at e2 ⊢
        rw [e2]
      · have := f3 i j hj; rwa [Nat.zero_add] at this
      · rw [f2] at e3; exact e3 g (Nat.zero_le _) hg

theorem ans_T (hi : In n sp js ks) (h : InvT n sp js ks D A) (hc : ClT n sp js ks D A) (i0 : Join → Nat) (h0 : ∀ j, j ∈ js → js[i0 j]? = some j) : Ans n sp js ks (fun g => A.getD g 0) (tlevel n js D A) (fun j => D.getD (i0 j) 0) := by
  have hG : ∀ (g : Nat), g < n → ∀ d, Q (A.getD g 0) d ↔ GrT n js ks sp D A g d := fun g hg d => by
    rw [← hc.ca g hg]; exact (q_tgraph hi h.bd.nn h.bd.lt (g : Int)).2 d
  have hJ : ∀ i j, js[i]? = some j → ∀ d, Q (D.getD i 0) d ↔ JnT n js ks sp D A j d := fun i j hj d => by
    rw [← hc.cd i j hj]; exact (q_tjoin hi h.bd.nn h.bd.lt j).2 d
  have hcomp : ∀ x d, Der n sp js ks x d → match x with
      | .a g => ∀ g' : Nat, g = g' → g' < n → GrT n js ks sp D A g d
      | .l f => LvT n js D A f d
      | .j j => j ∈ js → JnT n js ks sp D A j d := by
    intro x d hD
    induction hD with
    | spot x hx => exact fun _ _ _ => Or.inl ⟨x, hx, rfl, Int.le_refl _⟩
    | key k d hk hne hf ih =>
      intro _ _ _
      refine Or.inr ⟨k, hk, rfl, hne, ?_⟩
      rw [show d + 1 - 1 = d by omega]; exact ih
    | lj j d hj hD ih =>
      have hJ' := ih hj
      simp only [LvT]
      split
      · have hg := hi.jg j hj
        refine ⟨j.graph.toNat, by omega, (hG _ (by omega) d).2 ?_⟩
        rw [Int.toNat_of_nonneg hg.1]
        rcases hJ' with ⟨a, x, b, c, e, f⟩ | ⟨a, b, c⟩ | ⟨a, b, ⟨k, c, e, f, g⟩, g'⟩
        · exact Or.inl ⟨x, b, c, f⟩
        · exact c
        · exact Or.inr ⟨k, c, e, f, g⟩
      · exact ⟨i0 j, j, h0 j hj, rfl, (hJ _ j (h0 j hj) d).2 hJ'⟩
    | lt g d hg hD ih =>
      simp only [LvT, if_true]
      exact ⟨g, hg, (hG g hg d).2 (ih g rfl hg)⟩
    | jx j x he hx hg hf => exact fun hj => Or.inl ⟨he, x, hx, hg, hf, Int.le_refl _⟩
    | j0 j d he hr hD ih =>
      intro hj
      have := hi.jg j hj
      exact Or.inr (Or.inl ⟨he, hr, ih j.graph.toNat (by omega) (by omega)⟩)
    | jr j k d he hr hk hg hne hf hf' ih ih' =>
      intro hj
      refine Or.inr (Or.inr ⟨he, hr, ⟨k, hk, hg, hne, ?_⟩, ?_⟩)
      · rw [show d + 1 - 1 = d by omega]; exact ih
      · rw [show d + 1 - 1 = d by omega]; exact ih'
    | up x d e hD hle ih =>
      cases x with
      | a g => exact fun g' e hg' => (ih g' e hg').mono (Dn.refl _) (Dn.refl _) hle
      | l f => exact LvT.mono (Dn.refl _) (Dn.refl _) hle ih
      | j j => exact fun hj => (ih hj).mono (Dn.refl _) (Dn.refl _) hle
  exact ⟨fun g _ => h.bd.nn (.inl g), fun f => (q_tlevel h.bd.nn f).1, fun j hj => h.bd.nn (.inr _),
    fun g hg d => ⟨h.sA g d, fun hD => (hG g hg d).2 (hcomp _ d hD g rfl hg)⟩, fun f d => ⟨fun hq => h.sL f d (((q_tlevel h.bd.nn f).2 d).1 hq), fun hD => ((q_tlevel h.bd.nn f).2 d).2 (hcomp _ d hD)⟩, fun j hj d => ⟨h.sD _ j (h0 j hj) d, fun hD => (hJ _ j (h0 j hj) d).2 (hcomp _ d hD hj)⟩⟩
end
end Go.GB.C26

/-
  R26U: both texts take the same joins, keys and spots; solve and fill end.
-/
namespace Go.GB.C26
open Go.GB
set_option linter.unusedSimpArgs false
set_option linter.unusedVariables false
set_option maxRecDepth 100000

theorem firstJ_any (j : Join) : ∀ (l : List Join) (b : Bool), firstJ j l b = (b && !(l.any fun y => sameJ y j))
  | [], b => by simp [firstJ]
  | y :: r, b => by
    simp only [firstJ, firstJ_any j r, List.any_cons]
    cases sameJ y j <;> cases b <;> simp
theorem sameJ_iff (y j : Join) : sameJ y j = true ↔ y.ty = j.ty ∧ y.field = j.field ∧ y.graph = j.graph := by
  simp [sameJ, and_assoc]
theorem joins_eq (n : Nat) (name : Str) : ∀ (l pre acc : List Join) (seen : List ((Str × Int) × Bool)),
    (∀ f g, (kget (f, g) seen).getD false = true ↔ ∃ y, y ∈ pre ∧ y.ty = name ∧ 0 ≤ y.graph ∧ y.graph < n ∧ y.field = f ∧ y.graph = g) → joins0 n name l acc seen = joinsR n name pre l acc
  | [], pre, acc, seen, h => rfl
  | j :: r, pre, acc, seen, h => by
    have hs := h j.field j.graph
    simp only [joins0, joinsR]
    by_cases hb : j.ty = name ∧ 0 ≤ j.graph ∧ j.graph < n
    · obtain ⟨hn, h0, h1⟩ := hb
      have e1 : (j.ty == name) = true := by simpa using hn
      have e2 : decide (j.graph ≥ 0) = true := by simpa using h0
      have e3 : decide (j.graph < (n : Int)) = true := by simpa using h1
      have e4 : (pre.any fun y => sameJ y j) = (kget (j.field, j.graph) seen).getD false := by
        rw [Bool.eq_iff_iff, hs, List.any_eq_true]
        constructor
        · rintro ⟨y, hy, he⟩
          rw [sameJ_iff] at he
          exact ⟨y, hy, by rw [he.1, hn], by omega, by omega, he.2.1, he.2.2⟩
        · rintro ⟨y, hy, a, b, c, d, e⟩
          exact ⟨y, hy, (sameJ_iff y j).2 ⟨by rw [a, hn], d, e⟩⟩
      have ei : inj n name seen j = !((kget (j.field, j.graph) seen).getD false) := by simp only [inj, e1, e2, e3, Bool.true_and]
      have er : inR n name j (firstJ j pre true) = !((kget (j.field, j.graph) seen).getD false) := by simp only [inR, firstJ_any, e1, e2, e3, e4, Bool.true_and]
      by_cases hk : (kget (j.field, j.graph) seen).getD false = true
      · rw [if_neg (by rw [ei, hk]; simp), if_neg (by rw [er, hk]; simp)]
        refine joins_eq n name r (pre ++ [j]) acc seen fun f g => ?_
        rw [h f g]
        constructor
        · rintro ⟨y, hy, hh⟩; exact ⟨y, List.mem_append_left _ hy, hh⟩
        · rintro ⟨y, hy, a, b, c, d, e⟩
          rcases List.mem_append.1 hy with hy | hy
          · exact ⟨y, hy, a, b, c, d, e⟩
          · simp at hy; subst hy
            obtain ⟨z, hz, a', b', c', d', e'⟩ := hs.1 hk
            exact ⟨z, hz, a', b', c', by rw [d', d], by rw [e', e]⟩
      · rw [Bool.not_eq_true] at hk
        rw [if_pos (by rw [ei, hk]; simp), if_pos (by rw [er, hk]; simp)]
        refine joins_eq n name r (pre ++ [j]) (acc ++ [j]) _ fun f g => ?_
        rw [kget_kset]
        by_cases hfg : (f, g) = (j.field, j.graph)
        · rw [if_pos hfg]
          simp only [Option.getD_some, true_iff]
          cases hfg
          exact ⟨j, by simp, hn, h0, h1, rfl, rfl⟩
        · rw [if_neg hfg, h f g]
          constructor
          · rintro ⟨y, hy, hh⟩; exact ⟨y, List.mem_append_left _ hy, hh⟩
          · rintro ⟨y, hy, a, b, c, d, e⟩
            rcases List.mem_append.1 hy with hy | hy
            · exact ⟨y, hy, a, b, c, d, e⟩
            · simp at hy; subst hy
              exact absurd (by rw [d, e]) hfg
    · have e1 : ((j.ty == name) && decide (j.graph ≥ 0) && decide (j.graph < (n : Int))) = false := by
        rw [Bool.eq_false_iff]
        intro he
        simp at he
        exact hb ⟨he.1.1, he.1.2, he.2⟩
      rw [if_neg (by simp only [inj, e1]; simp), if_neg (by simp only [inR, e1]; simp)]
      refine joins_eq n name r (pre ++ [j]) acc seen fun f g => ?_
      rw [h f g]
      constructor
      · rintro ⟨y, hy, hh⟩; exact ⟨y, List.mem_append_left _ hy, hh⟩
      · rintro ⟨y, hy, a, b, c, d, e⟩
        rcases List.mem_append.1 hy with hy | hy
        · exact ⟨y, hy, a, b, c, d, e⟩
        · simp at hy; subst hy
          exact absurd ⟨a, b, c⟩ hb

theorem joinsR_mem (n : Nat) (name : Str) : ∀ (l pre acc : List Join) (x : Join), x ∈ joinsR n name pre l acc → x ∈ acc ∨ (x ∈ l ∧ x.ty = name ∧ 0 ≤ x.graph ∧ x.graph < n)
  | [], pre, acc, x, h => Or.inl h
  | j :: r, pre, acc, x, h => by
    simp only [joinsR] at h
    rcases joinsR_mem n name r _ _ x h with h | h
    · split at h
      · next hb =>
        rcases List.mem_append.1 h with h | h
        · exact Or.inl h
        · simp at h; subst h
          simp [inR] at hb
          exact Or.inr ⟨List.mem_cons_self .., hb.1.1.1, hb.1.1.2, hb.1.2⟩
      · exact Or.inl h
    · exact Or.inr ⟨List.mem_cons_of_mem _ h.1, h.2⟩
theorem joinsR_len (n : Nat) (name : Str) : ∀ (l pre acc : List Join), (joinsR n name pre l acc).length ≤ acc.length + l.length
  | [], pre, acc => by simp [joinsR]
  | j :: r, pre, acc => by
    simp only [joinsR]
    refine Nat.le_trans (joinsR_len n name r _ _) ?_
    split <;> simp <;> omega
theorem keys0_mem (n : Nat) (name : Str) : ∀ (l acc : List KeyO) (x : KeyO), x ∈ keys0 n name l acc → x ∈ acc ∨ (x ∈ l ∧ x.ty = name ∧ 0 ≤ x.graph ∧ x.graph < n)
  | [], acc, x, h => Or.inl h
  | j :: r, acc, x, h => by
    simp only [keys0] at h
    split at h
    · next hb =>
      rcases keys0_mem n name r _ x h with h | h
      · rcases List.mem_append.1 h with h | h
        · exact Or.inl h
        · simp at h; subst h
          simp [ink] at hb
          exact Or.inr ⟨List.mem_cons_self .., hb.1.1, hb.1.2, hb.2⟩
      · exact Or.inr ⟨List.mem_cons_of_mem _ h.1, h.2⟩
    · rcases keys0_mem n name r _ x h with h | h
      · exact Or.inl h
      · exact Or.inr ⟨List.mem_cons_of_mem _ h.1, h.2⟩
theorem keys0_len (n : Nat) (name : Str) : ∀ (l acc : List KeyO), (keys0 n name l acc).length ≤ acc.length + l.length
  | [], acc => by simp [keys0]
  | j :: r, acc => by
    simp only [keys0]
    split
    · refine Nat.le_trans (keys0_len n name r _) ?_
      simp; omega
    · refine Nat.le_trans (keys0_len n name r _) ?_
      simp
theorem spotsR_eq (n : Nat) : ∀ (l acc : List Spot), spotsR n l acc = acc ++ l.filter (inb n)
  | [], acc => by simp [spotsR]
  | x :: r, acc => by
    simp only [spotsR, spotsR_eq n r, List.filter_cons]
    split <;> simp
theorem inb_iff (n : Nat) (x : Spot) : inb n x = true ↔ 0 ≤ x.graph ∧ x.graph < n ∧ 1 ≤ x.depth ∧ x.depth ≤ 1099511627776 := by
  simp [inb, and_assoc]

/-- the numbers of the spots -/
theorem spots0_ok (n : Nat) : ∀ (l sp : List Spot) (A : List Int), n ≤ A.length → (∀ g, 0 ≤ A.getD g 0 ∧ A.getD g 0 ≤ 1099511627776) → (∀ x, x ∈ sp → inb n x = true ∧ Q (A.getD x.graph.toNat 0) x.depth) → (∀ (g : Nat) d, Q (A.getD g 0) d → ∃ x, x ∈ sp ∧ x.graph = g ∧ x.depth ≤ d) →
    (spots0 n l sp A).1 = sp ++ l.filter (inb n) ∧ (spots0 n l sp A).2.length = A.length ∧ (∀ g, 0 ≤ (spots0 n l sp A).2.getD g 0 ∧ (spots0 n l sp A).2.getD g 0 ≤ 1099511627776) ∧
    (∀ x, x ∈ (spots0 n l sp A).1 → inb n x = true ∧ Q ((spots0 n l sp A).2.getD x.graph.toNat 0) x.depth) ∧ (∀ (g : Nat) d, Q ((spots0 n l sp A).2.getD g 0) d → ∃ x, x ∈ (spots0 n l sp A).1 ∧ x.graph = g ∧ x.depth ≤ d)
  | [], sp, A, h0, h1, h2, h3 => by simp only [spots0, List.filter_nil, List.append_nil]; exact ⟨trivial, trivial, h1, h2, h3⟩
  | x :: r, sp, A, h0, h1, h2, h3 => by
    simp only [spots0]
    by_cases hb : inb n x = true
    · rw [if_pos hb]
      have hx := (inb_iff n x).1 hb
      have hg : x.graph.toNat < A.length := by omega
      have e : ∀ g, (A.set x.graph.toNat (lesser (A.getD x.graph.toNat 0) x.depth)).getD g 0 = if g = x.graph.toNat then lesser (A.getD x.graph.toNat 0) x.depth else A.getD g 0 := getD_set hg
      have hl : ∀ d, Q (lesser (A.getD x.graph.toNat 0) x.depth) d ↔ Q (A.getD x.graph.toNat 0) d ∨ Q x.depth d := fun d => q_lesser (h1 _).1 (by omega)
      have hl0 : 0 ≤ lesser (A.getD x.graph.toNat 0) x.depth ∧ lesser (A.getD x.graph.toNat 0) x.depth ≤ 1099511627776 := by
        have := (h1 x.graph.toNat)
        simp only [lesser]; split <;> omega
      obtain ⟨k1, k2, k3, k4, k5⟩ := spots0_ok n r (sp ++ [x]) (A.set x.graph.toNat (lesser (A.getD x.graph.toNat 0) x.depth)) (by simpa using h0)
        (fun g => by
          rw [e]; split
          · exact hl0
          · exact h1 g)
        (fun y hy => by
          rcases List.mem_append.1 hy with hy | hy
          · refine ⟨(h2 y hy).1, ?_⟩
            rw [e]
            split
            · next he => rw [hl, ← he]; exact Or.inl (h2 y hy).2
            · exact (h2 y hy).2
          · simp at hy; subst hy
            refine ⟨hb, ?_⟩
            rw [e, if_pos rfl, hl]
            exact Or.inr ⟨by omega, by omega⟩)
        (fun g d hq => by
          rw [e] at hq
          split at hq
          · next he =>
            rw [hl] at hq
            rcases hq with hq | hq
            · obtain ⟨y, a, b, c⟩ := h3 _ d hq
              exact ⟨y, List.mem_append_left _ a, by rw [b, he], c⟩
            · exact ⟨x, by simp, by omega, hq.2⟩
          · obtain ⟨y, a, b, c⟩ := h3 _ d hq
            exact ⟨y, List.mem_append_left _ a, b, c⟩)
      refine ⟨by rw [k1, List.filter_cons, if_pos hb]; simp, by rw [k2]; simp, k3, k4, k5⟩
    · rw [if_neg hb]
      obtain ⟨k1, k2, k3, k4, k5⟩ := spots0_ok n r sp A h0 h1 h2 h3
      refine ⟨by rw [k1, List.filter_cons, if_neg hb], k2, k3, k4, k5⟩

/-- the sizes -/
structure Small (s : Super) (here : List Spot) : Prop where
  g : s.graphs.length ≤ 10
  j : s.joins.length ≤ 120
  k : s.keys.length ≤ 60
  h : here.length ≤ 100
  jr : ∀ j, j ∈ s.joins → j.req.length ≤ 10 ∧ j.prov.length ≤ 10
  kf : ∀ k, k ∈ s.keys → k.fields.length ≤ 10
  ho : ∀ x, x ∈ here → x.ok

abbrev spotsOf (n : Nat) (here : List Spot) : List Spot := here.filter (inb n)
abbrev joinsOf (s : Super) (name : Str) : List Join := joinsR s.graphs.length name [] s.joins []
abbrev keysOf (s : Super) (name : Str) : List KeyO := keys0 s.graphs.length name s.keys []

theorem joinsOf_len (s : Super) (name : Str) : (joinsOf s name).length ≤ s.joins.length := by
  have := joinsR_len s.graphs.length name s.joins [] []
  simpa using this
theorem keysOf_len (s : Super) (name : Str) : (keysOf s name).length ≤ s.keys.length := by
  have := keys0_len s.graphs.length name s.keys []
  simpa using this
theorem spotsOf_len (n : Nat) (here : List Spot) : (spotsOf n here).length ≤ here.length := List.length_filter_le (inb n) here
theorem inOf {s : Super} {name : Str} {here : List Spot} (h : Small s here) : In s.graphs.length (spotsOf s.graphs.length here) (joinsOf s name) (keysOf s name) where
  n0 := by have := h.g; omega
  jl := by have := joinsOf_len s name; have := h.j; omega
  sg := fun x hx => (inb_iff _ x).1 (List.mem_filter.1 hx).2
  jg := fun j hj => by
    rcases joinsR_mem _ _ _ _ _ j hj with e | e
    · cases e
    · exact e.2.2
  kg := fun k hk => by
    rcases keys0_mem _ _ _ _ k hk with e | e
    · cases e
    · exact e.2.2
theorem joinsOf_small {s : Super} {name : Str} {here : List Spot} (h : Small s here) {j : Join} (hj : j ∈ joinsOf s name) : j.req.length ≤ 10 ∧ j.prov.length ≤ 10 := by
  rcases joinsR_mem _ _ _ _ _ j hj with e | e
  · cases e
  · exact h.jr j e.1
theorem keysOf_small {s : Super} {name : Str} {here : List Spot} (h : Small s here) {k : KeyO} (hk : k ∈ keysOf s name) : k.fields.length ≤ 10 := by
  rcases keys0_mem _ _ _ _ k hk with e | e
  · cases e
  · exact h.kf k e.1

theorem flat0 (n : Nat) : ((List.replicate n (List.replicate 8 (0 : Int))).flatten).length = 8 * n ∧ ∀ g, ((List.replicate n (List.replicate 8 (0 : Int))).flatten).getD g 0 = 0 := by
  have : (List.replicate n (List.replicate 8 (0 : Int))).flatten = List.replicate (n * 8) 0 := by
    rw [List.flatten_replicate_replicate]
  rw [this]
  refine ⟨by simp; omega, fun g => ?_⟩
  rw [List.getD_eq_getElem?_getD, List.getElem?_replicate]
  split <;> rfl

theorem sol_ex {s : Super} {name : Str} {here : List Spot} (h : Small s here) : ∃ F A, Sol s name here (spotsOf s.graphs.length here) (joinsOf s name) (keysOf s name) F A ∧
    Ans s.graphs.length (spotsOf s.graphs.length here) (joinsOf s name) (keysOf s name) (fun g => A.getD g 0) (levelP s.graphs.length F A) (readP s.graphs.length (spotsOf s.graphs.length here) (keysOf s name) F A) ∧ A.length = 8 * (s.graphs.length / 8 + 1) ∧ ∀ g, A.getD g 0 ≤ 1099512627776 := by
  have hi := inOf (name := name) h
  have hg := h.g; have hj := h.j; have hk := h.k; have hh := h.h
  obtain ⟨f1, f2⟩ := flat0 (s.graphs.length / 8 + 1)
  obtain ⟨k1, k2, k3, k4, k5⟩ := spots0_ok s.graphs.length here [] (List.replicate (s.graphs.length / 8 + 1) (List.replicate 8 0)).flatten (by omega) (fun g => by rw [f2]; omega) (fun x hx => by cases hx) (fun g d hq => by rw [f2] at hq; have := hq.1; omega)
  generalize hS : spots0 s.graphs.length here [] (List.replicate (s.graphs.length / 8 + 1) (List.replicate 8 0)).flatten = S at k1 k2 k3 k4 k5
  obtain ⟨sp, A0⟩ := S
  simp only [List.nil_append] at k1 k2 k3 k4 k5
  subst k1
  have hjl := joinsOf_len s name
  have hkl := keysOf_len s name
  have hsl := spotsOf_len s.graphs.length here
  have hv : ∀ i, 0 ≤ vR [] A0 i ∧ vR [] A0 i ≤ 1099511627776 := fun i => by
    cases i with
    | inl g => exact k3 g
    | inr f => simp [vR, kget]
  have hI : InvR s.graphs.length (spotsOf s.graphs.length here) (joinsOf s name) (keysOf s name) [] A0 := by
    refine ⟨⟨by simp only [fsR, List.length_append, List.length_map, List.length_range]; omega, fun i => (hv i).1, fun i => by have := (hv i).2; omega⟩, by omega, fun g d hq => ?_, fun f d hq => ?_, fun x hx => (k4 x hx).2⟩
    · obtain ⟨x, a, b, c⟩ := k5 g d hq
      rw [← b]; exact .up _ _ _ (.spot x a) c
    · simp [kget] at hq; have := hq.1; omega
  have hNof : ∀ A : List Int, A.length = 8 * (s.graphs.length / 8 + 1) → NOk s (spotsOf s.graphs.length here) (joinsOf s name) (keysOf s name) (s.graphs.length / 8 + 1) A := fun A hA =>
    { hnb := by omega, gr := by omega, lenA := hA, spL := by omega, jsL := by omega, ksL := by omega,
      spO := fun x hx => h.ho x (List.mem_filter.1 hx).1,
      jsO := fun j hj => (by have h1 := hi.jg j hj; have h2 := joinsOf_small h hj; exact ⟨⟨by omega, by omega⟩, by omega, by omega⟩),
      ksO := fun k hk => (by have := keysOf_small h hk; simp only [KeyO.ok]; omega) }
  obtain ⟨fuel, F1, A1, r1, r2, r3, r4, r5⟩ := iter_inv hi _ [] A0 (Nat.lt_succ_self _) hI
  refine ⟨F1, A1, ⟨by omega, by omega, by omega, by omega, ?_, rfl, ⟨A0, fuel, hS, hNof A0 (by omega), r1, r2⟩, hNof A1 (by omega)⟩, ans_R hi r3 r4, by omega, fun g => r3.bd.lt (.inl g)⟩
  exact joins_eq _ _ _ [] [] [] (fun f g => by simp [kget])

theorem joinsR_nodup_aux (n : Nat) (name : Str) : ∀ (l pre acc : List Join), (∀ x, x ∈ acc → x ∈ pre) → acc.Pairwise (fun a b => ¬ sameJ a b = true) → (joinsR n name pre l acc).Pairwise (fun a b => ¬ sameJ a b = true)
  | [], pre, acc, h1, h2 => h2
  | j :: r, pre, acc, h1, h2 => by
    simp only [joinsR]
    split
    · next hb =>
      refine joinsR_nodup_aux n name r _ _ (fun x hx => ?_) ?_
      · rcases List.mem_append.1 hx with hx | hx
        · exact List.mem_append_left _ (h1 x hx)
        · exact List.mem_append_right _ hx
      · rw [List.pairwise_append]
        refine ⟨h2, List.pairwise_singleton _ _, fun a ha b hb' => ?_⟩
        simp at hb'; subst hb'
        simp [inR, firstJ_any] at hb
        have := hb.2 a (h1 a ha)
        simp [this]
    · exact joinsR_nodup_aux n name r _ _ (fun x hx => List.mem_append_left _ (h1 x hx)) h2
theorem joinsOf_nodup (s : Super) (name : Str) : (joinsOf s name).Pairwise (fun a b => ¬ sameJ a b = true) :=
  joinsR_nodup_aux _ _ _ _ _ (fun x hx => by cases hx) List.Pairwise.nil

/-- where a join stands -/
def posJ (js : List Join) (j : Join) : Nat := js.findIdx fun y => sameJ y j
theorem posJ_at {js : List Join} (hn : js.Pairwise (fun a b => ¬ sameJ a b = true)) {i : Nat} {j : Join} (hj : js[i]? = some j) : posJ js j = i := by
  have hi : i < js.length := by
    rcases Nat.lt_or_ge i js.length with h | h
    · exact h
    · rw [List.getElem?_eq_none h] at hj; cases hj
  have hji : js[i] = j := by rw [List.getElem?_eq_getElem hi] at hj; simpa using hj
  unfold posJ
  rw [List.findIdx_eq hi]
  refine ⟨by rw [hji]; simp [sameJ], fun k hk => ?_⟩
  have := (List.pairwise_iff_getElem.1 hn) k i (by omega) hi hk
  rw [hji] at this
  simpa using this
theorem fil_ex {s : Super} {name : Str} {here : List Spot} (h : Small s here) : ∃ D A, Fil s name here (spotsOf s.graphs.length here) (joinsOf s name) (keysOf s name) D A ∧
    Ans s.graphs.length (spotsOf s.graphs.length here) (joinsOf s name) (keysOf s name) (fun g => A.getD g 0) (tlevel s.graphs.length (joinsOf s name) D A) (fun j => D.getD (posJ (joinsOf s name) j) 0) := by
  have hi := inOf (name := name) h
  have hg := h.g; have hj := h.j; have hk := h.k; have hh := h.h
  have hjl := joinsOf_len s name
  have hkl := keysOf_len s name
  have hsl := spotsOf_len s.graphs.length here
  have hz : ∀ n g, (List.replicate n (0 : Int)).getD g 0 = 0 := fun n g => by
    rw [List.getD_eq_getElem?_getD, List.getElem?_replicate]
    split <;> rfl
  have hv : ∀ i, vT (List.replicate (joinsOf s name).length 0) (List.replicate s.graphs.length 0) i = 0 := fun i => by
    cases i with
    | inl g => exact hz _ g
    | inr f => exact hz _ f
  have hI : InvT s.graphs.length (spotsOf s.graphs.length here) (joinsOf s name) (keysOf s name) (List.replicate (joinsOf s name).length 0) (List.replicate s.graphs.length 0) := by
    refine ⟨⟨by simp only [fsT, List.length_append, List.length_map, List.length_range]; omega, fun i => by rw [hv]; omega, fun i => by rw [hv]; omega⟩, by simp, by simp, fun g d hq => ?_, fun i j _ d hq => ?_, fun g d hq => ?_, fun i j _ d hq => ?_⟩
    all_goals (rw [hz] at hq; have := hq.1; omega)
  obtain ⟨fuel, D1, A1, r1, r2, r3, r4⟩ := iterT_inv hi _ _ _ (Nat.lt_succ_self _) hI
  refine ⟨D1, A1, ⟨by omega, by omega, by omega, by omega, ?_, rfl, rfl, fun D A hD hA => ?_, r3.ld, r3.la, fuel, r1, r2⟩, ans_T hi r3 r4 _ fun j hj => ?_⟩
  · rw [spotsR_eq]; rfl
  · exact ⟨by omega, hD, hA, by omega, by omega, by omega, fun x hx => h.ho x (List.mem_filter.1 hx).1, fun j hj => (by have h2 := joinsOf_small h hj; exact ⟨hi.jg j hj, by omega, by omega⟩), fun k hk => (by have := keysOf_small h hk; simp only [KeyO.ok]; omega)⟩
  · obtain ⟨i, hi'⟩ := List.mem_iff_getElem?.1 hj
    rw [posJ_at (joinsOf_nodup s name) hi']; exact hi'
end Go.GB.C26

/-
  GbZN: a branch on a truth that is not known.
-/
namespace Go.GB
section
variable {P : Program} {n m : Nat} {R : St → Prop}
theorem RelV.ub_inv {Λ : L} {v : Value} {c d : Prop} (h : RelV Λ v (.ub c d)) : ∃ b, v = .bool b ∧ (b = true → c) ∧ (b = false → d) := by
  cases h with
  | ub h h' => exact ⟨_, rfl, h, h'⟩
theorem Sat.condU {Q : AExit → St → Prop} {st : St} {z : Ar} {a b : ACode} {c d : Prop} (hz : z.v st = .ub c d) (h1 : c → Sat P n m a st Q) (h2 : d → Sat P n m b st Q) : Sat P n m (.cond z a b) st Q := by
  intro code k1 k2 k3 C Λ ac k4 k5 k6 k7 k8
  have := resC_cases k1
  simp only [ACode.bare] at this
  obtain ⟨e, x, y, rfl, hc, hx, hy⟩ := this
  simp only [codeOk, Bool.and_eq_true] at k2
  have hv := k7.opd hc
  rw [hz] at hv
  obtain ⟨t, ht, g1, g2⟩ := RelV.ub_inv hv
  refine wp_cond ht ?_
  cases t with
  | true => exact h1 (g1 rfl) x hx k2.1 k3 C Λ ac k4 k5 k6 k7 k8
  | false => exact h2 (g2 rfl) y hy k2.2 k3 C Λ ac k4 k5 k6 k7 k8
theorem Run.condU {k k' : List It} {z : Ar} {a b : ACode} {st : St} {c d : Prop} (hk : advK 200 k = .c (.cond z a b) :: k') (hz : z.v st = .ub c d) (h1 : c → Run P n m R (.c a :: k') st) (h2 : d → Run P n m R (.c b :: k') st) : Run P n m R k st :=
  Run.adv 200 hk (by
    simp only [Run, contQ] at h1 h2 ⊢
    exact Sat.condU hz h1 h2)
variable {draw : Bool} {all : List AO} {after : List (List Nat)} {live : List Nat} {k : List It} {b b' : Nat} {fl : List (Bool × Bool)} {ops : List AO} {st st' : St} {d : Option Nat}
/-- an element's address, and a load, under a guard -/
theorem Mid.iaSG {s : Nat} {want gc : Bool} {x i : Ar} {sz q off len : Nat} {kd : IntKind} {z : Nat} {p1 p2 : List Bool} (hg : gcondF want (look st.env s) = some gc) (hx : rd gc st x = (.slc q off len sz, p1)) (hi : rd gc st i = (.t (.int kd z), p2)) (hz : z < len)
    (hp1 : pall (p1.map fun p => !gc || p)) (hp2 : pall (p2.map fun p => !gc || p)) (hs : stepV st d (.gd gc (.ptr q (off + z * sz))) some = some st')
    (h' : Mid P n m R draw all after live k b ((false, false) :: fl) ops st') : Mid P n m R draw all after live k b fl (⟨d, some (s, want), .ia sz x i⟩ :: ops) st := by
  refine Mid.valG (v := .ptr q (off + z * sz)) (ps := p1 ++ (p2 ++ [true, true])) hg ?_ rfl (by simp only [List.map_append, pall_app]; exact ⟨hp1, hp2, by simp [pall]⟩) hs h'
  simp only [evalE, hx, hi]
  simp [hz]
theorem Mid.ldEG {ν : Type} {ev : ν → T} {l : List ν} {e : ν} {s : Nat} {want gc : Bool} {x : Ar} {q o nn : Nat} {p1 : List Bool} (hg : gcondF want (look st.env s) = some gc) (hx : rd gc st x = (.ptr q o, p1)) (hq : aget st.s.sto q = some (.cells (cE ev l))) (he : l[o]? = some e)
    (hp1 : pall (p1.map fun p => !gc || p)) (hs : stepV st d (.gd gc (.t (ev e))) some = some st')
    (h' : Mid P n m R draw all after live k b ((true, false) :: fl) ops st') : Mid P n m R draw all after live k b fl (⟨d, some (s, want), .ld false nn x⟩ :: ops) st :=
  Mid.valLG (v := .t (ev e)) (ps := p1) hg (by simp only [evalE, hx, hq]; simp [cE, he]) (looksV_ptr hx) hp1 hs h'
end
end Go.GB
