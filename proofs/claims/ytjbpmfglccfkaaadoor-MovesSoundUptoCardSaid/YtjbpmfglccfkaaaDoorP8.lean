/-
  YtjbpmfglccfkaaaDoorP8: lemmas of this proof (part 8). No conditions.
-/
import Derived.Test.YtjbpmfglccfkaaaDoorP7
import Derived.KernelRfl
import Derived.Test.YtjbpmfglccfkaaaDoorP6
import Derived.Test.YtjbpmfglccfkaaaDoorP4

/-
  F25H: moves: the examples; the law of what is found.
-/
namespace Go.GB.C23
open Go.GB Go.GB.C11
set_option linter.unusedSimpArgs false
set_option linter.unusedVariables false
set_option maxRecDepth 100000
set_option maxHeartbeats 4000000
variable {P : Program}

def nUser : Str := [85, 115, 101, 114]
def keyDir : Dir := ⟨[107, 101, 121], [⟨[102, 105, 101, 108, 100, 115], .mk 3 0 [105, 100] [] []⟩]⟩
def idField : Field := ⟨[105, 100], [], ⟨[73, 68], [1]⟩, []⟩
def userD (fl : Str) : Def := ⟨1, nUser, [], [keyDir], [idField, ⟨fl, [], ⟨[83, 116, 114, 105, 110, 103], []⟩, []⟩], [], []⟩
def userG (nm fl : Str) : Graph := ⟨nm, [userD fl]⟩
theorem user_ok (H : Pr25 P) (nm fl : Str) : FnOk P 60 [.t (.str nm), .t (.str fl)] ⟨[], 0⟩ { v := (userG nm fl).v } := by
  refine FnOk.run H.i60 H.mixed rfl rfl ?_
  refine fR rfl ?_
  refine Run.fin rfl (EndOk.go ?_); exact .agg (.cons (.t rfl) (.cons (.own rfl) .nil))

theorem keyDir_ok : DOk keyDir := by
  refine ⟨by decide, by decide, fun a ha => ?_⟩
  simp [keyDir] at ha; subst ha
  exact ⟨by decide, .mk (by decide) (by decide) (by simp) (by decide) (by simp), by decide⟩
theorem userD_ok (fl : Str) (hf : fl.length ≤ 1000) : GK [userD fl] := by
  refine ⟨⟨(Nat.le_of_ble_eq_true rfl), ?_, (Nat.le_of_ble_eq_true rfl)⟩, (Nat.le_of_ble_eq_true rfl), ?_⟩
  · intro t ht
    simp at ht; subst ht
    refine ⟨(Nat.le_of_ble_eq_true rfl), (Nat.le_of_ble_eq_true rfl), ?_, by simp [userD], ?_, (Nat.le_of_ble_eq_true rfl), by simp [userD], (Nat.le_of_ble_eq_true rfl), by simp [userD], (Nat.le_of_ble_eq_true rfl), by simp [userD]⟩
    · intro d hd
      simp [userD] at hd; subst hd
      refine ⟨(Nat.le_of_ble_eq_true rfl), fun a ha => ?_, (Nat.le_of_ble_eq_true rfl)⟩
      simp [keyDir] at ha; subst ha
      exact .mk ((Nat.le_of_ble_eq_true rfl)) ((Nat.le_of_ble_eq_true rfl)) (by simp) ((Nat.le_of_ble_eq_true rfl)) (by simp)
    · intro x hx
      simp [userD] at hx
      rcases hx with rfl | rfl
      · exact ⟨(Nat.le_of_ble_eq_true rfl), by simp [idField], ⟨(Nat.le_of_ble_eq_true rfl), (Nat.le_of_ble_eq_true rfl)⟩, (Nat.le_of_ble_eq_true rfl), by simp [idField], (Nat.le_of_ble_eq_true rfl)⟩
      · exact ⟨(Nat.le_of_ble_eq_true rfl), by simp, ⟨(Nat.le_of_ble_eq_true rfl), (Nat.le_of_ble_eq_true rfl)⟩, (Nat.le_of_ble_eq_true rfl), by simp, by show fl.length ≤ _; omega⟩
  · intro t ht
    simp at ht; subst ht
    refine ⟨⟨(Nat.le_of_ble_eq_true rfl), fun d hd => ?_⟩, by simp [userD], fun x hx => ?_, (Nat.le_of_ble_eq_true rfl)⟩
    · simp [userD] at hd; subst hd; exact keyDir_ok
    · simp [userD] at hx
      rcases hx with rfl | rfl
      · exact ⟨DK.nil, (Nat.le_of_ble_eq_true rfl), (Nat.le_of_ble_eq_true rfl), (Nat.le_of_ble_eq_true rfl)⟩
      · exact ⟨DK.nil, (Nat.le_of_ble_eq_true rfl), (Nat.le_of_ble_eq_true rfl), by show fl.length ≤ _; omega⟩

def nName : Str := [110, 97, 109, 101]
def nPosts : Str := [112, 111, 115, 116, 115]
def g1 : List Graph := [userG [97] nName, userG [98] nPosts]
def g2 : List Graph := [userG [97] nName, userG [98] nName]
def k1 : List KeyO := [⟨nUser, 0, [[105, 100]]⟩, ⟨nUser, 1, [[105, 100]]⟩]
def j1 : List Jn := [⟨nUser, [105, 100], 0, false, [], []⟩, ⟨nUser, nName, 0, false, [], []⟩, ⟨nUser, [105, 100], 1, false, [], []⟩, ⟨nUser, nPosts, 1, false, [], []⟩]
def b2 : List Fault := [⟨40, [97, 58, 85, 115, 101, 114, 46, 110, 97, 109, 101]⟩, ⟨40, [98, 58, 85, 115, 101, 114, 46, 110, 97, 109, 101]⟩]
theorem g1_k : kAll 0 g1 = k1 := by kernel_rfl
theorem g1_j : jAll 0 g1 = j1 := by kernel_rfl
theorem g1_b : bAll g1 0 g1 = [] := by kernel_rfl
theorem g2_b : bAll g2 0 g2 = b2 := by kernel_rfl
theorem g2_k : (kAll 0 g2).length = 2 := by kernel_rfl
theorem g2_j : (jAll 0 g2).length = 4 := by kernel_rfl
theorem gs_ok {n1 n2 f1 f2 : Str} (h1 : f1.length ≤ 1000) (h2 : f2.length ≤ 1000) : ∀ g, g ∈ [userG n1 f1, userG n2 f2] → GK g.doc := by
  intro g hg
  simp at hg
  rcases hg with rfl | rfl
  · exact userD_ok _ h1
  · exact userD_ok _ h2
theorem g1_ok : JoinsB g1 := ⟨by decide, gs_ok (by decide) (by decide), by decide, by rw [g1_k]; decide, by rw [g1_j]; decide, by rw [g1_b]; decide⟩
theorem g2_ok : JoinsB g2 := ⟨by decide, gs_ok (by decide) (by decide), by decide, by rw [g2_k]; decide, by rw [g2_j]; decide, by rw [g2_b]; decide⟩
theorem j1_ok : ∀ j, j ∈ j1 → j.Ok := by
  intro j hj
  simp [j1] at hj
  rcases hj with rfl | rfl | rfl | rfl <;> exact ⟨by decide, by decide⟩
theorem ex32_ok (H : Pr25 P) : FnOk P 32 [] ⟨[], 0⟩ { v := .t (.bool true) } := by
  have h1 := joins_ok H g1 g1_ok
  rw [g1_b, if_pos rfl, if_pos rfl, g1_k, g1_j] at h1
  have h2 := joins_ok H g2 g2_ok
  rw [g2_b, if_neg (by decide), if_neg (by decide)] at h2
  have h3 := findJ_ok H (.lst []) (.lst []) k1 j1 (by decide) j1_ok nUser nName 0
  have h4 := findJ_ok H (.lst []) (.lst []) k1 j1 (by decide) j1_ok nUser nName 1
  have h5 := keysJ_ok H (.lst []) (.lst []) k1 j1 (by decide) (by intro k hk; simp [k1] at hk; rcases hk with rfl | rfl <;> decide) nUser 1
  rw [show keysS nUser 1 k1 = [[[105, 100]]] by kernel_rfl] at h5
  rw [show (findJ nUser nName 0 j1).getD Jn.zero = ⟨nUser, nName, 0, false, [], []⟩ by kernel_rfl, show (findJ nUser nName 0 j1).isSome = true by kernel_rfl] at h3
  rw [show (findJ nUser nName 1 j1).getD Jn.zero = Jn.zero by kernel_rfl, show (findJ nUser nName 1 j1).isSome = false by kernel_rfl] at h4
  refine FnOk.run H.i32 H.mixed rfl rfl ?_
  refine fR rfl ?_
  refine Mid.call (user_ok H [97] nName) rfl rfl rfl rfl ?_
  refine Mid.call (user_ok H [98] nPosts) rfl rfl rfl rfl ?_
  refine Mid.bslP rfl rfl rfl ?_
  skip
  refine Mid.call (h1) rfl rfl rfl rfl ?_
  refine fM rfl ?_
  refine Mid.call (user_ok H [97] nName) rfl rfl rfl rfl ?_
  refine Mid.call (user_ok H [98] nName) rfl rfl rfl rfl ?_
  refine Mid.bslP rfl rfl rfl ?_
  skip
  refine Mid.call (h2) rfl rfl rfl rfl ?_
  refine fM rfl ?_
  refine lM rfl rfl rfl ?_
  refine fM rfl ?_
  refine lMG rfl rfl rfl rfl ?_
  refine fM rfl ?_
  refine lMG rfl rfl rfl rfl ?_
  refine fM rfl ?_
  refine lMG rfl rfl rfl rfl ?_
  refine fM rfl ?_
  refine Run.condF rfl rfl (by decide) ?_
  refine Run.fast (f := 6) rfl trivial ?_
  refine Mid.done0 rfl ?_
  refine rWeakC 1 rfl (st' := { env := [(6, .t (.lst (b2.map Fault.enc))), (7, .ptr 0 0)], s := ⟨[(0, .cells [.t (.lst []), .t (.lst []), .t (.lst (k1.map KeyO.enc)), .t (.lst (j1.map Jn.enc))])], 1⟩ }) ?_ rfl rfl rfl
  refine fR rfl ?_
  refine Mid.call (h3) rfl rfl rfl rfl ?_
  refine fM rfl ?_
  refine Mid.call (h4) rfl rfl rfl rfl ?_
  refine fM rfl ?_
  refine caG rfl rfl (fun hg => ⟨_, rfl, h5, rfl⟩) rfl rfl ?_
  refine lMG rfl rfl rfl rfl ?_
  refine fM rfl ?_
  refine gr rfl ?_
  refine fM rfl ?_
  refine gr rfl ?_
  refine fM rfl ?_
  refine gr rfl ?_
  refine fM rfl ?_
  refine gr rfl ?_
  refine fM rfl ?_
  refine Run.fin rfl (EndOk.go ?_); exact .t rfl
end Go.GB.C23


/-
  D11U: contracts of chapter 11's functions: the parts of the schema's check.
-/
namespace Go.GB.C11
open Go.GB
set_option linter.unusedSimpArgs false
set_option linter.unusedVariables false
set_option maxRecDepth 100000
set_option maxHeartbeats 2000000
variable {P : Program}

theorem namesO_ok (H : Pr P) (n : Str) (hn : n.length ≤ 140737488355328) (bad twice : Bool) (at_ : Str) : FnOk P 98 [.t (.str n), .t (.bool bad), .t (.bool twice), .t (.str at_)] ⟨[], 0⟩ { v := .own 0 2 ((namesF n bad twice at_).map Fault.enc), ob := [(0, .arr (namesF n bad twice at_).length)], n := 1 } := by
  refine FnOk.run H.i98 H.mixed rfl rfl ?_
  refine fR rfl ?_
  refine caG rfl rfl (fun hg => ⟨_, rfl, allowed_ok H n hn, rfl⟩) rfl rfl ?_
  refine fM rfl ?_
  refine Run.cond rfl rfl (fun h => ?_) (fun h => ?_)
  · refine fR rfl ?_
    refine apN Fault.enc [(⟨6, at_⟩ : Fault)] rfl rfl rfl ?_ (h1 := by first | omega | (simp; omega) | (simp; done)) (h2 := by first | omega | (simp; omega) | (simp; done))
    refine fM rfl ?_
    cases twice with
    | true =>
      refine Run.condT rfl rfl rfl ?_
      refine fR rfl ?_
      refine apM Fault.enc [(⟨6, at_⟩ : Fault)] [(⟨7, at_⟩ : Fault)] rfl rfl rfl rfl rfl ?_ (h1 := by first | omega | (simp; omega) | (simp; done)) (h2 := by first | omega | (simp; omega) | (simp; done))
      refine fM rfl ?_
      have e : namesF n bad true at_ = [⟨6, at_⟩] ++ [⟨7, at_⟩] := by unfold namesF; rw [if_pos h, if_pos rfl]
      rw [e]
      refine Run.fin rfl (EndOk.chg rfl rfl ?_ ?_)
      · exact .le (.same rfl)
      · exact (by repeat' (first | exact trivial | exact LeX.t | exact LeX.top | exact LeX.nilOwn (Nat.le_of_ble_eq_true rfl) (Nat.le_of_ble_eq_true rfl) | exact LeX.ownT | exact LeX.nilT | exact LeX.same rfl | exact LeX.tEq (by simp) | exact LeX.ownEq (by simp) (Nat.le_of_ble_eq_true rfl) | exact LeX.tEq (by congr 1 <;> omega) | exact Or.inr ⟨Nat.le_of_ble_eq_true rfl, Nat.le_of_ble_eq_true rfl, rfl⟩ | refine Or.inl ⟨Nat.le_of_ble_eq_true rfl, _, rfl, ?_⟩ | refine LeO.cells ?_ | exact LeO.arr rfl | exact LeO.arr (by simp) | exact LeO.mE (by first | rfl | simp) (by first | exact Or.inl rfl | exact Or.inr rfl) | exact LeO.cE (by first | rfl | simp) | exact LeXs.cE (by first | rfl | simp) | refine LeO.map (by first | rfl | simp) ?_ (by first | exact Or.inl rfl | exact Or.inr rfl) | exact LeO.iter (by first | rfl | simp) (Nat.le_of_ble_eq_true rfl) | refine LeXs.cons ?_ ?_ | exact LeXs.nil | refine And.intro ?_ ?_))
    | false =>
      refine Run.condF rfl rfl rfl ?_
      refine fR rfl ?_
      have e : namesF n bad false at_ = [⟨6, at_⟩] := by unfold namesF; rw [if_pos h, if_neg (by simp)]; rfl
      rw [e]
      refine Run.fin rfl (EndOk.chg rfl rfl ?_ ?_)
      · exact .le (.same rfl)
      · exact (by repeat' (first | exact trivial | exact LeX.t | exact LeX.top | exact LeX.nilOwn (Nat.le_of_ble_eq_true rfl) (Nat.le_of_ble_eq_true rfl) | exact LeX.ownT | exact LeX.nilT | exact LeX.same rfl | exact LeX.tEq (by simp) | exact LeX.ownEq (by simp) (Nat.le_of_ble_eq_true rfl) | exact LeX.tEq (by congr 1 <;> omega) | exact Or.inr ⟨Nat.le_of_ble_eq_true rfl, Nat.le_of_ble_eq_true rfl, rfl⟩ | refine Or.inl ⟨Nat.le_of_ble_eq_true rfl, _, rfl, ?_⟩ | refine LeO.cells ?_ | exact LeO.arr rfl | exact LeO.arr (by simp) | exact LeO.mE (by first | rfl | simp) (by first | exact Or.inl rfl | exact Or.inr rfl) | exact LeO.cE (by first | rfl | simp) | exact LeXs.cE (by first | rfl | simp) | refine LeO.map (by first | rfl | simp) ?_ (by first | exact Or.inl rfl | exact Or.inr rfl) | exact LeO.iter (by first | rfl | simp) (Nat.le_of_ble_eq_true rfl) | refine LeXs.cons ?_ ?_ | exact LeXs.nil | refine And.intro ?_ ?_))
  · refine fR rfl ?_
    have h' : ¬ (bad || !allowedF n) = true := by rw [h]; simp
    refine rWeakC 0 rfl (st' := { env := [(3, .t (.str at_)), (9, .own 0 2 ([].map Fault.enc)), (21, .t (.bool twice))], s := ⟨[(0, .arr 0)], 1⟩ }) ?_ rfl rfl rfl
    cases twice with
    | true =>
      refine Run.condT rfl rfl rfl ?_
      refine fR rfl ?_
      refine apM Fault.enc [] [(⟨7, at_⟩ : Fault)] rfl rfl rfl rfl rfl ?_ (h1 := by first | omega | (simp; omega) | (simp; done)) (h2 := by first | omega | (simp; omega) | (simp; done))
      refine fM rfl ?_
      have e : namesF n bad true at_ = [⟨7, at_⟩] := by unfold namesF; rw [if_neg h', if_pos rfl]; rfl
      rw [e]
      refine Run.fin rfl (EndOk.chg rfl rfl ?_ ?_)
      · exact .le (.same rfl)
      · exact (by repeat' (first | exact trivial | exact LeX.t | exact LeX.top | exact LeX.nilOwn (Nat.le_of_ble_eq_true rfl) (Nat.le_of_ble_eq_true rfl) | exact LeX.ownT | exact LeX.nilT | exact LeX.same rfl | exact LeX.tEq (by simp) | exact LeX.ownEq (by simp) (Nat.le_of_ble_eq_true rfl) | exact LeX.tEq (by congr 1 <;> omega) | exact Or.inr ⟨Nat.le_of_ble_eq_true rfl, Nat.le_of_ble_eq_true rfl, rfl⟩ | refine Or.inl ⟨Nat.le_of_ble_eq_true rfl, _, rfl, ?_⟩ | refine LeO.cells ?_ | exact LeO.arr rfl | exact LeO.arr (by simp) | exact LeO.mE (by first | rfl | simp) (by first | exact Or.inl rfl | exact Or.inr rfl) | exact LeO.cE (by first | rfl | simp) | exact LeXs.cE (by first | rfl | simp) | refine LeO.map (by first | rfl | simp) ?_ (by first | exact Or.inl rfl | exact Or.inr rfl) | exact LeO.iter (by first | rfl | simp) (Nat.le_of_ble_eq_true rfl) | refine LeXs.cons ?_ ?_ | exact LeXs.nil | refine And.intro ?_ ?_))
    | false =>
      refine Run.condF rfl rfl rfl ?_
      refine fR rfl ?_
      have e : namesF n bad false at_ = [] := by unfold namesF; rw [if_neg h', if_neg (by simp)]; rfl
      rw [e]
      refine Run.fin rfl (EndOk.chg rfl rfl ?_ ?_)
      · exact .le (.same rfl)
      · exact (by repeat' (first | exact trivial | exact LeX.t | exact LeX.top | exact LeX.nilOwn (Nat.le_of_ble_eq_true rfl) (Nat.le_of_ble_eq_true rfl) | exact LeX.ownT | exact LeX.nilT | exact LeX.same rfl | exact LeX.tEq (by simp) | exact LeX.ownEq (by simp) (Nat.le_of_ble_eq_true rfl) | exact LeX.tEq (by congr 1 <;> omega) | exact Or.inr ⟨Nat.le_of_ble_eq_true rfl, Nat.le_of_ble_eq_true rfl, rfl⟩ | refine Or.inl ⟨Nat.le_of_ble_eq_true rfl, _, rfl, ?_⟩ | refine LeO.cells ?_ | exact LeO.arr rfl | exact LeO.arr (by simp) | exact LeO.mE (by first | rfl | simp) (by first | exact Or.inl rfl | exact Or.inr rfl) | exact LeO.cE (by first | rfl | simp) | exact LeXs.cE (by first | rfl | simp) | refine LeO.map (by first | rfl | simp) ?_ (by first | exact Or.inl rfl | exact Or.inr rfl) | exact LeO.iter (by first | rfl | simp) (Nat.le_of_ble_eq_true rfl) | refine LeXs.cons ?_ ?_ | exact LeXs.nil | refine And.intro ?_ ?_))
def rootS (n : Str) : Bool := n == [81, 117, 101, 114, 121] || n == [77, 117, 116, 97, 116, 105, 111, 110] || n == [83, 117, 98, 115, 99, 114, 105, 112, 116, 105, 111, 110]
def badKind (d : Def) : Bool := (rootS d.name && d.kind != 1) || decide (d.kind < 1) || decide (d.kind > 5)
def twiceF (ds : List Def) (i : Nat) (n : Str) : Bool := scalF n || (ds.take i).any fun o => o.name == n
def wholeF (ds : List Def) (i : Nat) (d : Def) : List Fault :=
  namesF d.name false (twiceF ds i d.name) d.name ++ (if emptyF d = true then [⟨8, d.name⟩] else []) ++ (if badKind d = true then [⟨9, d.name⟩] else []) ++ (if circB ds d = true then [⟨5, d.name⟩] else [])
theorem namesF_len (n : Str) (a b : Bool) (s : Str) : (namesF n a b s).length ≤ 2 := by
  unfold namesF; split <;> split <;> simp
theorem whole_ok (H : Pr P) (ds : List Def) (hD : DocOk ds) (hil : ∀ o, o ∈ ds → o.inputs.length ≤ 2199023255552) (i : Nat) (d : Def) (h : ds[i]? = some d) : FnOk P 76 [docV ds, .t (.int .i64 i)] ⟨[], 0⟩ { v := .t (.lst ((wholeF ds i d).map Fault.enc)) } := by
  have hdm := List.mem_of_getElem? h
  have hd := hD.d d hdm
  have hnm := hd.nm
  have hdl := hD.l
  have hi : i < ds.length := (List.getElem?_eq_some_iff.1 h).1
  have hnl := namesF_len d.name false (twiceF ds i d.name) d.name
  have e0 : twiceF ds i d.name = (scalF d.name || (ds.take i).any fun o => o.name == d.name) := rfl
  refine FnOk.run H.i76 H.mixed rfl rfl ?_
  refine fR rfl ?_
  refine Mid.elemMap rfl rfl rfl h rfl rfl ?_
  refine fM rfl ?_
  refine Mid.call (rScalar_ok H d.name) rfl rfl rfl rfl ?_
  refine fM rfl ?_
  refine rList (ds.take i) (fun j (B : Bool) => { env := [(1, .t (.int .i64 i)), (2, .ptr 0 0), (5, .ptr 1 0), (6, .t (.bool B)), (7, .t (.int .i64 j))], s := ⟨[(0, .cells [.t (.lst (ds.map Def.enc))]), (1, .cells [.t (.int .i64 d.kind), .t (.str d.name), .t (.lst (d.implements.map sE)), .t (.lst (d.dirs.map Dir.enc)), .t (.lst (d.fields.map Field.enc)), .t (.lst (d.members.map Member.enc)), .t (.lst (d.inputs.map Input.enc))])], 2⟩ }) (fun r j B => twiceF ds i d.name = (B || r.any fun o => o.name == d.name)) 2 (scalF d.name) rfl e0 rfl rfl rfl ?_ ?_
  · intro B hB
    have hl : (ds.take i).length = i := by simp; omega
    have hB' : twiceF ds i d.name = B := by rw [hB]; simp
    rw [hl]
    have t0 : ∀ L : List Fault, L.length ≤ 5 → L = wholeF ds i d → Run P n76 0 (EndOk ⟨[], 0⟩ { v := .t (.lst ((wholeF ds i d).map Fault.enc)) } r76 .ret) (advK 200 [It.c c76_0]) { env := [(8, .own 2 2 (L.map Fault.enc))], s := ⟨[(2, .arr L.length)], 3⟩ } := by
      rintro L hLl rfl
      refine fR rfl ?_
      refine Run.fin rfl (EndOk.go ?_); exact .own rfl
    have t3 : ∀ L : List Fault, L.length ≤ 4 → L ++ (if circB ds d = true then [⟨5, d.name⟩] else []) = wholeF ds i d → Run P n76 0 (EndOk ⟨[], 0⟩ { v := .t (.lst ((wholeF ds i d).map Fault.enc)) } r76 .ret) (advK 200 [It.c c76_3]) { env := [(2, .ptr 0 0), (5, .ptr 1 0), (8, .own 2 2 (L.map Fault.enc))], s := ⟨[(0, .cells [.t (.lst (ds.map Def.enc))]), (1, .cells [.t (.int .i64 d.kind), .t (.str d.name), .t (.lst (d.implements.map sE)), .t (.lst (d.dirs.map Dir.enc)), .t (.lst (d.fields.map Field.enc)), .t (.lst (d.members.map Member.enc)), .t (.lst (d.inputs.map Input.enc))]), (2, .arr L.length)], 3⟩ } := by
      rintro L hLl hL
      refine fR rfl ?_
      refine Mid.call (circular_ok H ds hD d hd (by intro o ho; rcases List.mem_cons.1 ho with rfl | ho; exact hil _ hdm; exact hil _ ho)) rfl rfl rfl rfl ?_
      refine fM rfl ?_
      refine Run.cond rfl rfl (fun hc => ?_) (fun hc => ?_)
      · refine fR rfl ?_
        refine apM Fault.enc L [(⟨5, d.name⟩ : Fault)] rfl rfl rfl rfl rfl ?_ (h1 := by simp; omega) (h2 := by simp; omega)
        refine Mid.fast (f := 1) rfl trivial ?_
        refine Mid.done0 rfl ?_
        exact rWeakC 3 rfl (t0 (L ++ [⟨5, d.name⟩]) (by simp; omega) (by rw [← hL, if_pos (show circB ds d = true from hc)] <;> simp)) rfl rfl rfl
      · exact rWeakC 3 rfl (t0 L (by omega) (by rw [← hL, if_neg (show ¬ circB ds d = true by rw [show circB ds d = false from hc]; simp)] <;> simp)) rfl rfl rfl
    have t7 : ∀ L : List Fault, L.length ≤ 3 → L ++ (if badKind d = true then [⟨9, d.name⟩] else []) ++ (if circB ds d = true then [⟨5, d.name⟩] else []) = wholeF ds i d → Run P n76 0 (EndOk ⟨[], 0⟩ { v := .t (.lst ((wholeF ds i d).map Fault.enc)) } r76 .ret) (advK 200 [It.c c76_7]) { env := [(2, .ptr 0 0), (5, .ptr 1 0), (8, .own 2 2 (L.map Fault.enc))], s := ⟨[(0, .cells [.t (.lst (ds.map Def.enc))]), (1, .cells [.t (.int .i64 d.kind), .t (.str d.name), .t (.lst (d.implements.map sE)), .t (.lst (d.dirs.map Dir.enc)), .t (.lst (d.fields.map Field.enc)), .t (.lst (d.members.map Member.enc)), .t (.lst (d.inputs.map Input.enc))]), (2, .arr L.length)], 3⟩ } := by
      rintro L hLl hL
      refine fR rfl ?_
      refine Run.cond rfl rfl (fun hb => ?_) (fun hb => ?_)
      · refine fR rfl ?_
        refine apM Fault.enc L [(⟨9, d.name⟩ : Fault)] rfl rfl rfl rfl rfl ?_ (h1 := by simp; omega) (h2 := by simp; omega)
        refine Mid.fast (f := 1) rfl trivial ?_
        refine Mid.done0 rfl ?_
        exact rWeakC 3 rfl (t3 (L ++ [⟨9, d.name⟩]) (by simp; omega) (by rw [← hL, if_pos (show badKind d = true from hb)] <;> simp)) rfl rfl rfl
      · exact rWeakC 3 rfl (t3 L (by omega) (by rw [← hL, if_neg (show ¬ badKind d = true by rw [show badKind d = false from hb]; simp)] <;> simp)) rfl rfl rfl
    refine fR rfl ?_
    refine Run.condF rfl rfl (by simp) ?_
    refine fR rfl ?_
    rw [hB'] at hnl
    refine Mid.callO [] (namesO_ok H d.name hnm false B d.name) rfl rfl rfl rfl (by simp [stoBd]) (by repeat' (first | exact trivial | exact rfl | refine And.intro ?_ ?_ | exact (congrArg some (AObj.ren_mE _ _ _ _ _ _)).symm | exact (congrArg some (AObj.ren_cE _ _ _)).symm)) rfl rfl (ob' := [(2, .arr (namesF d.name false B d.name).length)]) (rfl) rfl rfl ?_
    refine fM rfl ?_
    refine Mid.call (empty_ok H d) rfl rfl rfl rfl ?_
    refine fM rfl ?_
    have hL : namesF d.name false B d.name ++ (if emptyF d = true then [⟨8, d.name⟩] else []) ++ (if badKind d = true then [⟨9, d.name⟩] else []) ++ (if circB ds d = true then [⟨5, d.name⟩] else []) = wholeF ds i d := by unfold wholeF; rw [hB']
    generalize namesF d.name false B d.name = L at hL hnl
    refine Run.cond rfl rfl (fun he => ?_) (fun he => ?_)
    · refine fR rfl ?_
      refine apM Fault.enc L [(⟨8, d.name⟩ : Fault)] rfl rfl rfl rfl rfl ?_ (h1 := by simp; omega) (h2 := by simp; omega)
      refine Mid.fast (f := 1) rfl trivial ?_
      refine Mid.done0 rfl ?_
      exact rWeakC 3 rfl (t7 (L ++ [⟨8, d.name⟩]) (by simp; omega) (by rw [← hL, if_pos (show emptyF d = true from he)] <;> simp)) rfl rfl rfl
    · exact rWeakC 3 rfl (t7 L (by omega) (by rw [← hL, if_neg (show ¬ emptyF d = true by rw [show emptyF d = false from he]; simp)] <;> simp)) rfl rfl rfl
  · intro j o r B h1 hj hjd hB ih
    have hji : j < i := by simp at hj; omega
    have ho : ds[j]? = some o := by rw [List.getElem?_take] at h1; rw [if_pos hji] at h1; exact h1
    have hjl : j < ds.length := by omega
    refine fR rfl ?_
    refine Run.condT rfl rfl (by simp; omega) ?_
    refine fR rfl ?_
    refine elG rfl rfl rfl rfl ho rfl rfl ?_
    refine fM rfl ?_
    refine aL rfl rfl rfl rfl rfl ?_
    refine fM rfl ?_
    exact rWeak 2 rfl (ih (B || o.name == d.name) (by rw [hB]; simp only [List.any_cons]; cases B <;> simp)) rfl rfl rfl
end Go.GB.C11


/-
  D11V: contracts of chapter 11's functions: the lists of the schema's check.
-/
namespace Go.GB.C11
open Go.GB
set_option linter.unusedSimpArgs false
set_option linter.unusedVariables false
set_option maxRecDepth 100000
set_option maxHeartbeats 2000000
variable {P : Program}

def inOne (ds : List Def) (p : List Input) (x : Input) (at_ : Str) : List Fault :=
  namesF x.name false (findInput x.name p).isSome at_ ++ (if knownF ds x.ty.name = false then [⟨8, at_⟩] else if isInF ds x.ty.name = false then [⟨10, at_⟩] else [])
def inF (ds : List Def) (pre post : Str) : List Input → List Input → List Fault
  | _, [] => []
  | p, x :: r => inOne ds p x (pre ++ x.name ++ post) ++ inF ds pre post (p ++ [x]) r
theorem inputs_ok (H : Pr P) (ds : List Def) (hD : DocOk ds) (l : List Input) (hl : l.length ≤ 140737488355328) (hlo : ∀ y, y ∈ l → y.Ok) (pre post : Str) (hp : pre.length ≤ 1125899906842624) (hq : post.length ≤ 1125899906842624) (ht : (inF ds pre post [] l).length ≤ 4398046511104) :
    FnOk P 79 [docV ds, .t (.lst (l.map Input.enc)), .t (.str pre), .t (.str post)] ⟨[], 0⟩ { v := .t (.lst ((inF ds pre post [] l).map Fault.enc)) } := by
  generalize hT : inF ds pre post [] l = tot at ht
  refine FnOk.run H.i79 H.mixed rfl rfl ?_
  refine fR rfl ?_
  refine rList l (fun i (B : List Fault) => { env := [(1, .t (.lst (l.map Input.enc))), (2, .t (.str pre)), (3, .t (.str post)), (4, .ptr 0 0), (9, .own 1 2 (B.map Fault.enc)), (10, .t (.int .i64 i))], s := ⟨[(0, .cells [.t (.lst (ds.map Def.enc))]), (1, .arr B.length)], 2⟩ }) (fun r i B => B ++ inF ds pre post (l.take i) r = tot) 1 [] rfl (by simpa using hT) rfl rfl rfl ?_ ?_
  · rintro B hB
    obtain rfl : B = tot := by rw [← hB]; simp [inF]
    refine fR rfl ?_
    refine lM rfl rfl rfl ?_
    refine fM rfl ?_
    refine Run.condF rfl rfl (by simp) ?_
    refine fR rfl ?_
    refine Run.fin rfl (EndOk.go ?_); exact .own rfl
  · rintro i x r B h1 hi hd hB ih
    have hx := hlo x (List.mem_of_getElem? h1)
    have hxn := hx.nm
    have htk : l.take i ++ [x] = l.take (i + 1) := by rw [List.take_add_one, h1]; rfl
    have htkl : (l.take i).length ≤ 140737488355328 := by simp; omega
    simp only [inF, inOne, htk] at hB
    generalize hAt : pre ++ x.name ++ post = at_ at hB
    have hatl : at_.length ≤ 4503599627370496 := by rw [← hAt]; simp; omega
    have hlen := congrArg List.length hB
    simp only [List.length_append] at hlen
    refine fR rfl ?_
    refine lM rfl rfl rfl ?_
    refine fM rfl ?_
    refine Run.condT rfl rfl (by simp; omega) ?_
    refine fR rfl ?_
    refine Mid.elemMap rfl rfl rfl h1 rfl rfl ?_
    refine fM rfl ?_
    refine pu rfl ?_
    refine fM rfl ?_
    refine pu rfl ?_
    refine fM rfl ?_
    refine lTo rfl rfl rfl rfl ?_
    refine fM rfl ?_
    rw [hAt]
    refine Mid.elemMap rfl rfl rfl h1 rfl rfl ?_
    refine fM rfl ?_
    refine Mid.call (rInputOf_ok H (l.take i) htkl x.name) rfl rfl rfl rfl ?_
    refine fM rfl ?_
    refine Mid.elemMap rfl rfl rfl h1 rfl rfl ?_
    refine fM rfl ?_
    refine Mid.call (names_ok H x.name hxn false (findInput x.name (l.take i)).isSome at_) rfl rfl rfl rfl ?_
    skip
    generalize namesF x.name false (findInput x.name (l.take i)).isSome at_ = N at hB hlen
    refine apM Fault.enc B N rfl rfl rfl rfl rfl ?_ (h1 := by first | omega | (simp; omega) | (simp; done)) (h2 := by first | omega | (simp; omega) | (simp; done))
    refine fM rfl ?_
    refine Mid.elemMap rfl rfl rfl h1 rfl rfl ?_
    refine fM rfl ?_
    refine Mid.call (known_ok H ds hD x.ty.name) rfl rfl rfl rfl ?_
    refine fM rfl ?_
    refine Run.cond rfl rfl (fun hk => ?_) (fun hk => ?_)
    · have hk' : knownF ds x.ty.name = false := by simpa using hk
      rw [if_pos hk'] at hB hlen
      simp only [List.length_cons, List.length_nil] at hlen
      refine fR rfl ?_
      refine apM Fault.enc (B ++ N) [(⟨8, at_⟩ : Fault)] rfl rfl rfl rfl rfl ?_ (h1 := by first | omega | (simp; omega) | (simp; done)) (h2 := by first | omega | (simp; omega) | (simp; done))
      refine fM rfl ?_
      refine aL rfl rfl rfl rfl rfl ?_
      refine fM rfl ?_
      exact rWeak 2 rfl (ih (B ++ N ++ [⟨8, at_⟩]) (by rw [← hB]; simp)) rfl rfl rfl
    · have hk' : ¬ knownF ds x.ty.name = false := by simpa using hk
      rw [if_neg hk'] at hB hlen
      refine fR rfl ?_
      refine Mid.elemMap rfl rfl rfl h1 rfl rfl ?_
      refine fM rfl ?_
      refine Mid.call (isInput_ok H ds hD x.ty.name) rfl rfl rfl rfl ?_
      refine fM rfl ?_
      refine Run.cond rfl rfl (fun hy => ?_) (fun hy => ?_)
      · have hy' : isInF ds x.ty.name = false := by simpa using hy
        rw [if_pos hy'] at hB hlen
        simp only [List.length_cons, List.length_nil] at hlen
        refine fR rfl ?_
        refine apM Fault.enc (B ++ N) [(⟨10, at_⟩ : Fault)] rfl rfl rfl rfl rfl ?_ (h1 := by first | omega | (simp; omega) | (simp; done)) (h2 := by first | omega | (simp; omega) | (simp; done))
        refine fM rfl ?_
        refine aL rfl rfl rfl rfl rfl ?_
        refine fM rfl ?_
        exact rWeak 2 rfl (ih (B ++ N ++ [⟨10, at_⟩]) (by rw [← hB]; simp)) rfl rfl rfl
      · have hy' : ¬ isInF ds x.ty.name = false := by simpa using hy
        rw [if_neg hy'] at hB hlen
        refine fR rfl ?_
        refine aL rfl rfl rfl rfl rfl ?_
        refine fM rfl ?_
        exact rWeak 2 rfl (ih (B ++ N) (by rw [← hB]; simp)) rfl rfl rfl

def fldB (ds : List Def) (n : Str) : Bool := !scalF n && (findDef n ds).isSome && ((findDef n ds).getD Def.zero).kind == 5
def fldOne (ds : List Def) (p : List Field) (x : Field) (at_ : Str) : List Fault :=
  namesF x.name false (findField x.name p).isSome at_ ++ (if knownF ds x.ty.name = false then [⟨8, at_⟩] else if fldB ds x.ty.name = true then [⟨10, at_⟩] else []) ++ inF ds (at_ ++ [40]) [41] [] x.args
def fldL (ds : List Def) (n : Str) : List Field → List Field → List Fault
  | _, [] => []
  | p, x :: r => fldOne ds p x (n ++ [46] ++ x.name) ++ fldL ds n (p ++ [x]) r
theorem fields_ok (H : Pr P) (ds : List Def) (hD : DocOk ds) (d : Def) (hd : d.Ok) (ht : (fldL ds d.name [] d.fields).length ≤ 4398046511104) : FnOk P 77 [docV ds, d.v] ⟨[], 0⟩ { v := .t (.lst ((fldL ds d.name [] d.fields).map Fault.enc)) } := by
  have hfl := hd.fl
  have hnm := hd.nm
  generalize hT : fldL ds d.name [] d.fields = tot at ht
  refine FnOk.run H.i77 H.mixed rfl rfl ?_
  refine fR rfl ?_
  refine rList d.fields (fun i (B : List Fault) => { env := [(2, .ptr 0 0), (3, .ptr 1 0), (5, .own 2 2 (B.map Fault.enc)), (6, .t (.int .i64 i))], s := ⟨[(0, .cells [.t (.lst (ds.map Def.enc))]), (1, .cells [.t (.int .i64 d.kind), .t (.str d.name), .t (.lst (d.implements.map sE)), .t (.lst (d.dirs.map Dir.enc)), .t (.lst (d.fields.map Field.enc)), .t (.lst (d.members.map Member.enc)), .t (.lst (d.inputs.map Input.enc))]), (2, .arr B.length)], 3⟩ }) (fun r i B => B ++ fldL ds d.name (d.fields.take i) r = tot) 2 [] rfl (by simpa using hT) rfl rfl rfl ?_ ?_
  · rintro B hB
    obtain rfl : B = tot := by rw [← hB]; simp [fldL]
    refine fR rfl ?_
    refine lM rfl rfl rfl ?_
    refine fM rfl ?_
    refine Run.condF rfl rfl (by simp) ?_
    refine fR rfl ?_
    refine Run.fin rfl (EndOk.go ?_); exact .own rfl
  · rintro i x r B h1 hi hdr hB ih
    have hx := hd.f x (List.mem_of_getElem? h1)
    have hxn := hx.nm
    have hxl := hx.al
    have htk : d.fields.take i ++ [x] = d.fields.take (i + 1) := by rw [List.take_add_one, h1]; rfl
    have htkl : (d.fields.take i).length ≤ 140737488355328 := by simp; omega
    simp only [fldL, fldOne, htk] at hB
    generalize hAt : d.name ++ [46] ++ x.name = at_ at hB
    have hatl : at_.length ≤ 1125899906842000 := by rw [← hAt]; simp; omega
    have hlen := congrArg List.length hB
    simp only [List.length_append] at hlen
    refine fR rfl ?_
    refine lM rfl rfl rfl ?_
    refine fM rfl ?_
    refine Run.condT rfl rfl (by simp; omega) ?_
    refine fR rfl ?_
    refine Mid.elemMap rfl rfl rfl h1 rfl rfl ?_
    refine fM rfl ?_
    refine pu rfl ?_
    refine fM rfl ?_
    refine pu rfl ?_
    refine fM rfl ?_
    refine lTo rfl rfl rfl rfl ?_
    refine fM rfl ?_
    rw [hAt]
    refine Mid.call (rFieldOf_ok H ⟨0, [], [], [], d.fields.take i, [], []⟩ htkl x.name) rfl rfl rfl rfl ?_
    refine fM rfl ?_
    refine Mid.call (names_ok H x.name hxn false (findField x.name (d.fields.take i)).isSome at_) rfl rfl rfl rfl ?_
    skip
    generalize namesF x.name false (findField x.name (d.fields.take i)).isSome at_ = N at hB hlen
    refine apM Fault.enc B N rfl rfl rfl rfl rfl ?_ (h1 := by first | omega | (simp; omega) | (simp; done)) (h2 := by first | omega | (simp; omega) | (simp; done))
    refine fM rfl ?_
    refine Mid.call (rFind_ok H ds hD.l x.ty.name) rfl rfl rfl rfl ?_
    refine fM rfl ?_
    refine Mid.call (known_ok H ds hD x.ty.name) rfl rfl rfl rfl ?_
    refine fM rfl ?_
    refine Run.cond rfl rfl (fun hk => ?_) (fun hk => ?_)
    · have hk' : knownF ds x.ty.name = false := by simpa using hk
      rw [if_pos hk'] at hB hlen
      simp only [List.length_cons, List.length_nil] at hlen
      refine fR rfl ?_
      refine apM Fault.enc (B ++ N) [(⟨8, at_⟩ : Fault)] rfl rfl rfl rfl rfl ?_ (h1 := by first | omega | (simp; omega) | (simp; done)) (h2 := by first | omega | (simp; omega) | (simp; done))
      refine fM rfl ?_
      refine pu rfl ?_
      refine Mid.call (inputs_ok H ds hD x.args hxl hx.a (at_ ++ [40]) [41] (by simp; omega) (by decide) (by omega)) rfl rfl rfl rfl ?_
      skip
      generalize inF ds (at_ ++ [40]) [41] [] x.args = M at hB hlen
      refine apM Fault.enc (B ++ N ++ [⟨8, at_⟩]) M rfl rfl rfl rfl rfl ?_ (h1 := by first | omega | (simp; omega) | (simp; done)) (h2 := by first | omega | (simp; omega) | (simp; done))
      refine fM rfl ?_
      refine aL rfl rfl rfl rfl rfl ?_
      refine fM rfl ?_
      exact rWeak 3 rfl (ih (B ++ N ++ [⟨8, at_⟩] ++ M) (by rw [← hB]; simp)) rfl rfl rfl
    · have hk' : ¬ knownF ds x.ty.name = false := by simpa using hk
      rw [if_neg hk'] at hB hlen
      refine fR rfl ?_
      refine Mid.call (rScalar_ok H x.ty.name) rfl rfl rfl rfl ?_
      refine fM rfl ?_
      refine Run.cond rfl rfl (fun hy => ?_) (fun hy => ?_)
      · have hy' : fldB ds x.ty.name = true := hy
        rw [if_pos hy'] at hB hlen
        simp only [List.length_cons, List.length_nil] at hlen
        refine fR rfl ?_
        refine apM Fault.enc (B ++ N) [(⟨10, at_⟩ : Fault)] rfl rfl rfl rfl rfl ?_ (h1 := by first | omega | (simp; omega) | (simp; done)) (h2 := by first | omega | (simp; omega) | (simp; done))
        refine fM rfl ?_
        refine pu rfl ?_
        refine Mid.call (inputs_ok H ds hD x.args hxl hx.a (at_ ++ [40]) [41] (by simp; omega) (by decide) (by omega)) rfl rfl rfl rfl ?_
        skip
        generalize inF ds (at_ ++ [40]) [41] [] x.args = M at hB hlen
        refine apM Fault.enc (B ++ N ++ [⟨10, at_⟩]) M rfl rfl rfl rfl rfl ?_ (h1 := by first | omega | (simp; omega) | (simp; done)) (h2 := by first | omega | (simp; omega) | (simp; done))
        refine fM rfl ?_
        refine aL rfl rfl rfl rfl rfl ?_
        refine fM rfl ?_
        exact rWeak 3 rfl (ih (B ++ N ++ [⟨10, at_⟩] ++ M) (by rw [← hB]; simp)) rfl rfl rfl
      · have hy' : ¬ fldB ds x.ty.name = true := by rw [show fldB ds x.ty.name = false from hy]; simp
        rw [if_neg hy'] at hB hlen
        simp only [List.length_nil] at hlen
        refine fR rfl ?_
        refine pu rfl ?_
        refine Mid.call (inputs_ok H ds hD x.args hxl hx.a (at_ ++ [40]) [41] (by simp; omega) (by decide) (by omega)) rfl rfl rfl rfl ?_
        skip
        generalize inF ds (at_ ++ [40]) [41] [] x.args = M at hB hlen
        refine apM Fault.enc (B ++ N) M rfl rfl rfl rfl rfl ?_ (h1 := by first | omega | (simp; omega) | (simp; done)) (h2 := by first | omega | (simp; omega) | (simp; done))
        refine fM rfl ?_
        refine aL rfl rfl rfl rfl rfl ?_
        refine fM rfl ?_
        exact rWeak 3 rfl (ih (B ++ N ++ M) (by rw [← hB]; simp)) rfl rfl rfl

def memBad (n : Str) : Bool := n == [116, 114, 117, 101] || n == [102, 97, 108, 115, 101] || n == [110, 117, 108, 108]
def memL (t : Str) : List Member → List Member → List Fault
  | _, [] => []
  | p, x :: r => namesF x.name (memBad x.name) (memF p x.name) (t ++ [46] ++ x.name) ++ memL t (p ++ [x]) r
theorem members_ok (H : Pr P) (d : Def) (hd : d.Ok) (ht : (memL d.name [] d.members).length ≤ 4398046511104) : FnOk P 78 [d.v] ⟨[], 0⟩ { v := .t (.lst ((memL d.name [] d.members).map Fault.enc)) } := by
  have hfl := hd.ml
  have hnm := hd.nm
  generalize hT : memL d.name [] d.members = tot at ht
  refine FnOk.run H.i78 H.mixed rfl rfl ?_
  refine fR rfl ?_
  refine rList d.members (fun i (B : List Fault) => { env := [(1, .ptr 0 0), (3, .own 1 2 (B.map Fault.enc)), (4, .t (.int .i64 i))], s := ⟨[(0, .cells [.t (.int .i64 d.kind), .t (.str d.name), .t (.lst (d.implements.map sE)), .t (.lst (d.dirs.map Dir.enc)), .t (.lst (d.fields.map Field.enc)), .t (.lst (d.members.map Member.enc)), .t (.lst (d.inputs.map Input.enc))]), (1, .arr B.length)], 2⟩ }) (fun r i B => B ++ memL d.name (d.members.take i) r = tot) 1 [] rfl (by simpa using hT) rfl rfl rfl ?_ ?_
  · rintro B hB
    obtain rfl : B = tot := by rw [← hB]; simp [memL]
    refine fR rfl ?_
    refine lM rfl rfl rfl ?_
    refine fM rfl ?_
    refine Run.condF rfl rfl (by simp) ?_
    refine fR rfl ?_
    refine Run.fin rfl (EndOk.go ?_); exact .own rfl
  · rintro i x r B h1 hi hdr hB ih
    have hx := hd.m x (List.mem_of_getElem? h1)
    have hxn := hx.nm
    have htk : d.members.take i ++ [x] = d.members.take (i + 1) := by rw [List.take_add_one, h1]; rfl
    have htkl : (d.members.take i).length ≤ 140737488355328 := by simp; omega
    simp only [memL, htk] at hB
    generalize hAt : d.name ++ [46] ++ x.name = at_ at hB
    have hatl : at_.length ≤ 1125899906842000 := by rw [← hAt]; simp; omega
    have hlen := congrArg List.length hB
    simp only [List.length_append] at hlen
    refine fR rfl ?_
    refine lM rfl rfl rfl ?_
    refine fM rfl ?_
    refine Run.condT rfl rfl (by simp; omega) ?_
    refine fR rfl ?_
    refine Mid.elemMap rfl rfl rfl h1 rfl rfl ?_
    refine fM rfl ?_
    refine rList (d.members.take i) (fun j (C : Bool) => { env := [(1, .ptr 0 0), (3, .own 1 2 (B.map Fault.enc)), (4, .t (.int .i64 i)), (5, .t (.str x.name)), (6, .t (.bool C)), (7, .t (.int .i64 j))], s := ⟨[(0, .cells [.t (.int .i64 d.kind), .t (.str d.name), .t (.lst (d.implements.map sE)), .t (.lst (d.dirs.map Dir.enc)), .t (.lst (d.fields.map Field.enc)), .t (.lst (d.members.map Member.enc)), .t (.lst (d.inputs.map Input.enc))]), (1, .arr B.length)], 2⟩ }) (fun r j C => memF (d.members.take i) x.name = (C || memF r x.name)) 2 false rfl (by simp) rfl rfl rfl ?_ ?_
    · intro C hC
      have hl : (d.members.take i).length = i := by simp; omega
      have hC' : memF (d.members.take i) x.name = C := by rw [hC]; simp [memF]
      rw [hl]
      rw [hC'] at hB hlen
      refine fR rfl ?_
      refine Run.condF rfl rfl (by simp) ?_
      refine fR rfl ?_
      refine pu rfl ?_
      refine fM rfl ?_
      refine pu rfl ?_
      rw [hAt]
      refine Mid.call (names_ok H x.name hxn (memBad x.name) C at_) rfl rfl rfl rfl ?_
      skip
      generalize namesF x.name (memBad x.name) C at_ = N at hB hlen
      refine apM Fault.enc B N rfl rfl rfl rfl rfl ?_ (h1 := by first | omega | (simp; omega) | (simp; done)) (h2 := by first | omega | (simp; omega) | (simp; done))
      refine fM rfl ?_
      refine aL rfl rfl rfl rfl rfl ?_
      refine fM rfl ?_
      exact rWeak 2 rfl (ih (B ++ N) (by rw [← hB]; simp)) rfl rfl rfl
    · intro j o r2 C h2 hj hjd hC ih2
      have hji : j < i := by simp at hj; omega
      have ho : d.members[j]? = some o := by rw [List.getElem?_take] at h2; rw [if_pos hji] at h2; exact h2
      have hjl : j < d.members.length := by omega
      refine fR rfl ?_
      refine Run.condT rfl rfl (by simp; omega) ?_
      refine fR rfl ?_
      refine elG rfl rfl rfl rfl ho rfl rfl ?_
      refine fM rfl ?_
      refine aL rfl rfl rfl rfl rfl ?_
      refine fM rfl ?_
      exact rWeak 2 rfl (ih2 (C || o.name == x.name) (by rw [hC]; simp only [memF, List.any_cons]; cases C <;> simp)) rfl rfl rfl
end Go.GB.C11


/-
  D11W: contracts of chapter 11's functions: the schema's check.
-/
namespace Go.GB.C11
open Go.GB
set_option linter.unusedSimpArgs false
set_option linter.unusedVariables false
set_option maxRecDepth 100000
set_option maxHeartbeats 2000000
variable {P : Program}

def tQuery : Str := [81, 117, 101, 114, 121]
def chkK (ds : List Def) (d : Def) : List Fault :=
  if d.kind = 1 then fldL ds d.name [] d.fields else if d.kind = 2 then fldL ds d.name [] d.fields
  else if d.kind = 4 then memL d.name [] d.members else if d.kind = 5 then inF ds (d.name ++ [46]) [] [] d.inputs else []
def chkL (ds : List Def) : Nat → List Def → List Fault
  | _, [] => []
  | i, d :: r => wholeF ds i d ++ chkK ds d ++ chkL ds (i + 1) r
def chkQ (ds : List Def) (q : Bool) : List Fault := if (q && !(findDef tQuery ds).isSome) = true then [⟨30, tQuery⟩] else []
def checkF (ds : List Def) (q : Bool) : List Fault := chkL ds 0 ds ++ chkQ ds q
theorem check_ok (H : Pr P) (ds : List Def) (hD : DocOk ds) (hil : ∀ o, o ∈ ds → o.inputs.length ≤ 2199023255552) (q : Bool) (ht : (checkF ds q).length ≤ 4398046511104) : FnOk P 59 [docV ds, .t (.bool q)] ⟨[], 0⟩ { v := .t (.lst ((checkF ds q).map Fault.enc)) } := by
  have hdl := hD.l
  have hT : chkL ds 0 ds ++ chkQ ds q = checkF ds q := rfl
  generalize checkF ds q = tot at ht hT
  refine FnOk.run H.i59 H.mixed rfl rfl ?_
  refine fR rfl ?_
  refine rList ds (fun i (B : List Fault) => { env := [(1, .t (.bool q)), (2, .ptr 0 0), (5, .own 1 2 (B.map Fault.enc)), (6, .t (.int .i64 i))], s := ⟨[(0, .cells [.t (.lst (ds.map Def.enc))]), (1, .arr B.length)], 2⟩ }) (fun r i B => B ++ chkL ds i r ++ chkQ ds q = tot) 1 [] rfl (by simpa using hT) rfl rfl rfl ?_ ?_
  · rintro B hB
    simp only [chkL, List.append_nil] at hB
    have hlen := congrArg List.length hB
    simp only [List.length_append] at hlen
    refine fR rfl ?_
    refine lM rfl rfl rfl ?_
    refine fM rfl ?_
    refine Run.condF rfl rfl (by simp) ?_
    refine fR rfl ?_
    refine Mid.call (rFind_ok H ds hD.l tQuery) rfl rfl rfl rfl ?_
    refine fM rfl ?_
    refine Run.cond rfl rfl (fun hc => ?_) (fun hc => ?_)
    · have hc' : chkQ ds q = [⟨30, tQuery⟩] := by unfold chkQ; rw [if_pos (show (q && !(findDef tQuery ds).isSome) = true from hc)]
      rw [hc'] at hB hlen
      simp only [List.length_cons, List.length_nil] at hlen
      refine fR rfl ?_
      refine apM Fault.enc B [(⟨30, tQuery⟩ : Fault)] rfl rfl rfl rfl rfl ?_ (h1 := by first | omega | (simp; omega) | (simp; done)) (h2 := by first | omega | (simp; omega) | (simp; done))
      refine fM rfl ?_
      refine Run.fin rfl (EndOk.go ?_); exact .own (by rw [hB])
    · have hc' : chkQ ds q = [] := by unfold chkQ; rw [if_neg (by rw [show (q && !(findDef tQuery ds).isSome) = false from hc]; simp)]
      rw [hc'] at hB
      refine fR rfl ?_
      refine Run.fin rfl (EndOk.go ?_); exact .own (by rw [← hB]; simp)
  · rintro i d r B h1 hi hdr hB ih
    have hd := hD.d d (List.mem_of_getElem? h1)
    have hnm := hd.nm
    have hnl := hd.nl
    simp only [chkL] at hB
    have hlen := congrArg List.length hB
    simp only [List.length_append] at hlen
    refine fR rfl ?_
    refine lM rfl rfl rfl ?_
    refine fM rfl ?_
    refine Run.condT rfl rfl (by simp; omega) ?_
    refine fR rfl ?_
    refine Mid.elemMap rfl rfl rfl h1 rfl rfl ?_
    refine fM rfl ?_
    refine Mid.call (whole_ok H ds hD hil i d h1) rfl rfl rfl rfl ?_
    skip
    generalize wholeF ds i d = W at hB hlen
    refine apM Fault.enc B W rfl rfl rfl rfl rfl ?_ (h1 := by first | omega | (simp; omega) | (simp; done)) (h2 := by first | omega | (simp; omega) | (simp; done))
    refine fM rfl ?_
    unfold chkK at hB hlen
    refine Run.cond rfl rfl (fun k1 => ?_) (fun k1 => ?_)
    · have k1' : d.kind = 1 := by simpa using k1
      rw [if_pos k1'] at hB hlen
      skip
      refine Run.condT rfl rfl k1 ?_
      refine fR rfl ?_
      refine Mid.call (fields_ok H ds hD d hd (by omega)) rfl rfl rfl rfl ?_
      skip
      generalize fldL ds d.name [] d.fields = M at hB hlen
      refine apM Fault.enc (B ++ W) M rfl rfl rfl rfl rfl ?_ (h1 := by first | omega | (simp; omega) | (simp; done)) (h2 := by first | omega | (simp; omega) | (simp; done))
      refine fM rfl ?_
      refine aL rfl rfl rfl rfl rfl ?_
      refine fM rfl ?_
      exact rWeak 2 rfl (ih (B ++ W ++ M) (by rw [← hB]; simp)) rfl rfl rfl
    · have k1' : ¬ d.kind = 1 := by simpa using k1
      rw [if_neg k1'] at hB hlen
      refine fR rfl ?_
      refine Run.cond rfl rfl (fun k2 => ?_) (fun k2 => ?_)
      · have k2' : d.kind = 2 := by simpa using k2
        rw [if_pos k2'] at hB hlen
        refine fR rfl ?_
        refine Mid.call (fields_ok H ds hD d hd (by omega)) rfl rfl rfl rfl ?_
        skip
        generalize fldL ds d.name [] d.fields = M at hB hlen
        refine apM Fault.enc (B ++ W) M rfl rfl rfl rfl rfl ?_ (h1 := by first | omega | (simp; omega) | (simp; done)) (h2 := by first | omega | (simp; omega) | (simp; done))
        refine fM rfl ?_
        refine aL rfl rfl rfl rfl rfl ?_
        refine fM rfl ?_
        exact rWeak 2 rfl (ih (B ++ W ++ M) (by rw [← hB]; simp)) rfl rfl rfl
      · have k2' : ¬ d.kind = 2 := by simpa using k2
        rw [if_neg k2'] at hB hlen
        refine fR rfl ?_
        refine Run.cond rfl rfl (fun k4 => ?_) (fun k4 => ?_)
        · have k4' : d.kind = 4 := by simpa using k4
          rw [if_pos k4'] at hB hlen
          refine fR rfl ?_
          refine Mid.call (members_ok H d hd (by omega)) rfl rfl rfl rfl ?_
          skip
          generalize memL d.name [] d.members = M at hB hlen
          refine apM Fault.enc (B ++ W) M rfl rfl rfl rfl rfl ?_ (h1 := by first | omega | (simp; omega) | (simp; done)) (h2 := by first | omega | (simp; omega) | (simp; done))
          refine fM rfl ?_
          refine aL rfl rfl rfl rfl rfl ?_
          refine fM rfl ?_
          exact rWeak 2 rfl (ih (B ++ W ++ M) (by rw [← hB]; simp)) rfl rfl rfl
        · have k4' : ¬ d.kind = 4 := by simpa using k4
          rw [if_neg k4'] at hB hlen
          refine fR rfl ?_
          refine Run.cond rfl rfl (fun k5 => ?_) (fun k5 => ?_)
          · have k5' : d.kind = 5 := by simpa using k5
            rw [if_pos k5'] at hB hlen
            refine fR rfl ?_
            refine pu rfl ?_
            refine Mid.call (inputs_ok H ds hD d.inputs hnl hd.n (d.name ++ [46]) [] (by simp; omega) (by decide) (by omega)) rfl rfl rfl rfl ?_
            skip
            generalize inF ds (d.name ++ [46]) [] [] d.inputs = M at hB hlen
            refine apM Fault.enc (B ++ W) M rfl rfl rfl rfl rfl ?_ (h1 := by first | omega | (simp; omega) | (simp; done)) (h2 := by first | omega | (simp; omega) | (simp; done))
            refine fM rfl ?_
            refine aL rfl rfl rfl rfl rfl ?_
            refine fM rfl ?_
            exact rWeak 2 rfl (ih (B ++ W ++ M) (by rw [← hB]; simp)) rfl rfl rfl
          · have k5' : ¬ d.kind = 5 := by simpa using k5
            rw [if_neg k5'] at hB hlen
            refine fR rfl ?_
            refine aL rfl rfl rfl rfl rfl ?_
            refine fM rfl ?_
            exact rWeak 2 rfl (ih (B ++ W) (by rw [← hB]; simp)) rfl rfl rfl
end Go.GB.C11


/-
  F25K: what no violations of a document mean: its types, and the fields of each, have different names.
-/
namespace Go.GB.C11
open Go.GB
set_option linter.unusedSimpArgs false
set_option linter.unusedVariables false
set_option maxRecDepth 100000
set_option maxHeartbeats 2000000

def wFd : List Field → Nat
  | [] => 0
  | f :: r => f.args.length + f.dirs.length + wFd r
def wD (d : Def) : Nat := 1 + d.fields.length + d.members.length + d.inputs.length + d.dirs.length + d.implements.length + wFd d.fields
def wDs : List Def → Nat
  | [] => 0
  | d :: r => wD d + wDs r
theorem bulkLL_len {α : Type} (f : α → List T) (hf : ∀ x, 1 ≤ bulkL (f x)) : ∀ l : List α, l.length ≤ bulkLL (l.map f)
  | [] => by simp
  | x :: r => by
    have := hf x; have := bulkLL_len f hf r
    simp only [List.map_cons, bulkLL, List.length_cons]; omega
theorem bulk_pos (x : T) : 1 ≤ x.bulk := by cases x <;> simp [T.bulk]
theorem bulkL_cons (x : T) (r : List T) : 1 ≤ bulkL (x :: r) := by have := bulk_pos x; simp only [bulkL]; omega
theorem wF_bulk : ∀ l : List Field, l.length + wFd l ≤ bulkLL (l.map Field.enc)
  | [] => by simp [wFd]
  | f :: r => by
    have := wF_bulk r
    have h1 := bulkLL_len Input.enc (fun x => bulkL_cons _ _) f.args
    have h2 := bulkLL_len Dir.enc (fun x => bulkL_cons _ _) f.dirs
    simp only [List.map_cons, bulkLL, List.length_cons, wFd, Field.enc, bulkL, T.bulk]; omega
theorem wD_bulk (d : Def) : wD d ≤ bulkL d.enc := by
  have h1 := wF_bulk d.fields
  have h2 := bulkLL_len Member.enc (fun x => bulkL_cons _ _) d.members
  have h3 := bulkLL_len Input.enc (fun x => bulkL_cons _ _) d.inputs
  have h4 := bulkLL_len Dir.enc (fun x => bulkL_cons _ _) d.dirs
  have h5 := bulkLL_len sE (fun x => bulkL_cons _ _) d.implements
  simp only [wD, Def.enc, bulkL, T.bulk]; omega
theorem wDs_bulk : ∀ ds : List Def, wDs ds ≤ bulkLL (ds.map Def.enc)
  | [] => by simp [wDs]
  | d :: r => by have := wD_bulk d; have := wDs_bulk r; simp only [wDs, List.map_cons, bulkLL]; omega
theorem inF_lenR (ds : List Def) (a b : Str) : ∀ (l p : List Input), (inF ds a b p l).length ≤ 3 * l.length
  | [], p => by simp [inF]
  | x :: r, p => by
    have h1 := inF_lenR ds a b r (p ++ [x])
    have h2 := namesF_len x.name false (findInput x.name p).isSome (a ++ x.name ++ b)
    simp only [inF, inOne, List.length_append, List.length_cons]
    split
    · simp only [List.length_cons, List.length_nil]; omega
    · split
      · simp only [List.length_cons, List.length_nil]; omega
      · simp only [List.length_nil]; omega
theorem fldL_lenR (ds : List Def) (n : Str) : ∀ (l p : List Field), (fldL ds n p l).length ≤ 3 * (l.length + wFd l)
  | [], p => by simp [fldL]
  | x :: r, p => by
    have h1 := fldL_lenR ds n r (p ++ [x])
    have h2 := namesF_len x.name false (findField x.name p).isSome (n ++ [46] ++ x.name)
    have h3 := inF_lenR ds (n ++ [46] ++ x.name ++ [40]) [41] x.args []
    simp only [fldL, fldOne, List.length_append, List.length_cons, wFd]
    split
    · simp only [List.length_cons, List.length_nil]; omega
    · split
      · simp only [List.length_cons, List.length_nil]; omega
      · simp only [List.length_nil]; omega
theorem memL_lenR (n : Str) : ∀ (l p : List Member), (memL n p l).length ≤ 2 * l.length
  | [], p => by simp [memL]
  | x :: r, p => by
    have h1 := memL_lenR n r (p ++ [x])
    have h2 := namesF_len x.name (memBad x.name) (memF p x.name) (n ++ [46] ++ x.name)
    simp only [memL, List.length_append, List.length_cons]; omega
theorem wholeF_lenR (ds : List Def) (i : Nat) (d : Def) : (wholeF ds i d).length ≤ 5 := by
  have := namesF_len d.name false (twiceF ds i d.name) d.name
  unfold wholeF
  simp only [List.length_append]
  split <;> split <;> split <;> simp <;> omega
theorem chkL_lenR (ds : List Def) : ∀ (l : List Def) (i : Nat), (chkL ds i l).length ≤ 5 * l.length + 3 * wDs l
  | [], i => by simp [chkL]
  | d :: r, i => by
    have h1 := chkL_lenR ds r (i + 1)
    have h2 := wholeF_lenR ds i d
    have h3 : (chkK ds d).length ≤ 3 * wD d := by
      have a1 := fldL_lenR ds d.name d.fields []
      have a2 := memL_lenR d.name d.members []
      have a3 := inF_lenR ds (d.name ++ [46]) [] d.inputs []
      unfold chkK wD
      split
      · omega
      · split
        · omega
        · split
          · omega
          · split
            · omega
            · simp
    simp only [chkL, List.length_append, List.length_cons, wDs]; omega
theorem check_lenR {ds : List Def} (hb : bulkLL (ds.map Def.enc) ≤ 1048576) (q : Bool) : (checkF ds q).length ≤ 4398046511104 := by
  have h1 := chkL_lenR ds ds 0
  have h2 := wDs_bulk ds
  have h3 := bulkLL_len Def.enc (fun x => bulkL_cons _ _) ds
  unfold checkF chkQ
  rw [List.length_append]
  split <;> simp <;> omega
theorem chkL_nil {ds : List Def} : ∀ {l : List Def} {i : Nat}, chkL ds i l = [] → ∀ j d, l[j]? = some d → wholeF ds (i + j) d = []
  | [], i, _, j, d, h => by simp at h
  | x :: r, i, hc, j, d, h => by
    simp only [chkL, List.append_eq_nil_iff] at hc
    cases j with
    | zero => simp at h; subst h; exact hc.1.1
    | succ j =>
      have := chkL_nil hc.2 j d (by simpa using h)
      rwa [show i + (j + 1) = i + 1 + j by omega]
theorem whole_nil {ds : List Def} {i : Nat} {d : Def} (h : wholeF ds i d = []) : allowedF d.name = true ∧ twiceF ds i d.name = false := by
  unfold wholeF namesF at h
  simp only [List.append_eq_nil_iff] at h
  refine ⟨?_, ?_⟩
  · have := h.1.1.1.1
    split at this
    · cases this
    · rename_i hn; simpa using hn
  · have := h.1.1.1.2
    split at this
    · cases this
    · rename_i hn; simpa using hn
theorem check_find {ds : List Def} {q : Bool} (h : checkF ds q = []) {d : Def} (hd : d ∈ ds) : findDef d.name ds = some d ∧ allowedF d.name = true := by
  unfold checkF at h
  simp only [List.append_eq_nil_iff] at h
  obtain ⟨i, hi⟩ := List.mem_iff_getElem?.1 hd
  obtain ⟨h1, h2⟩ := whole_nil (chkL_nil h.1 i d hi)
  refine ⟨find_first hi ?_, h1⟩
  unfold twiceF at h2
  simp only [Bool.or_eq_false_iff] at h2
  unfold firstF
  have := h2.2
  simp only [Nat.zero_add] at this
  rw [this]; rfl
/- fields -/
theorem chkK_nil {ds : List Def} : ∀ {l : List Def} {i : Nat}, chkL ds i l = [] → ∀ d, d ∈ l → chkK ds d = []
  | [], i, _, d, h => by cases h
  | x :: r, i, hc, d, h => by
    simp only [chkL, List.append_eq_nil_iff] at hc
    rcases List.mem_cons.1 h with rfl | h
    · exact hc.1.2
    · exact chkK_nil hc.2 d h
theorem fldOne_nil {ds : List Def} {p : List Field} {x : Field} {a : Str} (h : fldOne ds p x a = []) : (findField x.name p).isSome = false := by
  unfold fldOne namesF at h
  simp only [List.append_eq_nil_iff] at h
  have := h.1.1.2
  split at this
  · cases this
  · rename_i hn; simpa using hn
theorem findField_snoc {n : Str} {x : Field} (hx : x.name = n) : ∀ {p r : List Field}, (findField n p).isSome = false → findField n (p ++ x :: r) = some x
  | [], r, _ => by simp [findField, hx]
  | y :: p, r, h => by
    simp only [List.cons_append, findField] at h ⊢
    split
    · rename_i hn; rw [if_pos hn] at h; cases h
    · rename_i hn; rw [if_neg hn] at h; exact findField_snoc hx h
theorem fldL_find {ds : List Def} {n : Str} : ∀ {l p : List Field}, fldL ds n p l = [] → ∀ x, x ∈ l → findField x.name (p ++ l) = some x
  | [], p, _, x, h => by cases h
  | y :: r, p, hc, x, h => by
    simp only [fldL, List.append_eq_nil_iff] at hc
    rcases List.mem_cons.1 h with rfl | h
    · exact findField_snoc rfl (fldOne_nil hc.1)
    · have := fldL_find hc.2 x h
      rwa [List.append_assoc, List.singleton_append] at this
theorem check_field {ds : List Def} {q : Bool} (h : checkF ds q = []) {t : Def} (ht : t ∈ ds) (hk : t.kind = 1) {x : Field} (hx : x ∈ t.fields) : findField x.name t.fields = some x := by
  unfold checkF at h
  simp only [List.append_eq_nil_iff] at h
  have := chkK_nil h.1 t ht
  unfold chkK at this
  rw [if_pos hk] at this
  have := fldL_find this x hx
  rwa [List.nil_append] at this
end Go.GB.C11


/-
  F23N: what the bulk of a document says of its directives.
-/
namespace Go.GB.C23
open Go.GB Go.GB.C11

theorem mem_bulk {α : Type} {f : α → List T} : ∀ {l : List α} {x : α}, x ∈ l → bulkL (f x) ≤ bulkLL (l.map f)
  | y :: r, x, h => by
    simp only [List.map_cons, bulkLL]
    rcases List.mem_cons.1 h with rfl | h
    · omega
    · have := mem_bulk (f := f) h; omega
theorem len_bulk {α : Type} {f : α → List T} (h : ∀ x, 1 ≤ bulkL (f x)) : ∀ l : List α, l.length ≤ bulkLL (l.map f)
  | [] => by simp
  | y :: r => by
    have := len_bulk h r
    have := h y
    simp only [List.map_cons, bulkLL, List.length_cons]; omega
theorem dir_b (d : Dir) : 1 ≤ bulkL d.enc := by simp only [Dir.enc, bulkL, T.bulk]; omega
theorem dirs_b (l : List Dir) : l.length ≤ bulkLL (l.map Dir.enc) := len_bulk dir_b l
theorem dok_of {d : Dir} (ho : d.Ok) (hb : bulkL d.enc ≤ 1048576) : DOk d := by
  refine ⟨ho.l, ho.nm, fun a ha => ?_⟩
  have h1 := mem_bulk (f := Arg.enc) ha
  simp only [Dir.enc, bulkL, T.bulk] at hb
  simp only [Arg.enc, bulkL, T.bulk] at h1
  exact ⟨by omega, ho.a a ha, by omega⟩
theorem dsok_of {l : List Dir} (ho : ∀ d, d ∈ l → d.Ok) (hb : bulkLL (l.map Dir.enc) ≤ 1048576) : DsOk l :=
  ⟨by have := dirs_b l; omega, fun d hd => dok_of (ho d hd) (by have := mem_bulk (f := Dir.enc) hd; omega)⟩
theorem inpD_of {a : Input} (ho : a.Ok) (hb : bulkL a.enc ≤ 1048576) : InpD a := by
  simp only [Input.enc, bulkL, T.bulk] at hb
  exact ⟨ho.nm, dsok_of ho.d (by omega)⟩
theorem fldD_of {a : Field} (ho : a.Ok) (hb : bulkL a.enc ≤ 1048576) : FldD a := by
  simp only [Field.enc, bulkL, T.bulk] at hb
  exact ⟨ho.nm, dsok_of ho.d (by omega), ho.al, fun x hx => inpD_of (ho.a x hx) (by have := mem_bulk (f := Input.enc) hx; omega)⟩
theorem memD_of {a : Member} (ho : a.Ok) (hb : bulkL a.enc ≤ 1048576) : MemD a := by
  simp only [Member.enc, bulkL, T.bulk] at hb
  exact ⟨ho.nm, dsok_of ho.d (by omega)⟩
theorem inp_b (d : Input) : 1 ≤ bulkL d.enc := by simp only [Input.enc, bulkL, T.bulk]; omega
theorem fld_b (d : Field) : 1 ≤ bulkL d.enc := by simp only [Field.enc, bulkL, T.bulk]; omega
theorem mem_b (d : Member) : 1 ≤ bulkL d.enc := by simp only [Member.enc, bulkL, T.bulk]; omega
theorem def_b (d : Def) : 1 ≤ bulkL d.enc := by simp only [Def.enc, bulkL, T.bulk]; omega
theorem defD_of {a : Def} (ho : a.Ok) (hb : bulkL a.enc ≤ 1048576) : DefD a := by
  simp only [Def.enc, bulkL, T.bulk] at hb
  have h1 := len_bulk fld_b a.fields
  have h2 := len_bulk mem_b a.members
  have h3 := len_bulk inp_b a.inputs
  exact ⟨by omega, dsok_of ho.d (by omega), by omega, fun x hx => fldD_of (ho.f x hx) (by have := mem_bulk (f := Field.enc) hx; omega), by omega, fun x hx => memD_of (ho.m x hx) (by have := mem_bulk (f := Member.enc) hx; omega), by omega, fun x hx => inpD_of (ho.n x hx) (by have := mem_bulk (f := Input.enc) hx; omega)⟩
theorem docD_of {ds : List Def} (ho : DocOk ds) (hb : bulkLL (ds.map Def.enc) ≤ 1048576) : ∀ t, t ∈ ds → DefD t :=
  fun t ht => defD_of (ho.d t ht) (by have := mem_bulk (f := Def.enc) ht; omega)
theorem docL_of {ds : List Def} (hb : bulkLL (ds.map Def.enc) ≤ 1048576) : ds.length ≤ 1048576 := by
  have := len_bulk def_b ds; omega
theorem argL_len (s : Str) : ∀ l : List Input, (argL s l).length ≤ bulkLL (l.map Input.enc)
  | [] => by simp [argL]
  | a :: r => by
    have h1 := argL_len s r
    have h2 := usesF_len 0 (s ++ [40] ++ a.name ++ [41]) a.dirs []
    have h3 := dirs_b a.dirs
    simp only [argL, List.length_append, List.map_cons, bulkLL, Input.enc, bulkL, T.bulk] at h1 ⊢; omega
theorem fldL_len (s : Str) (pl : Int) : ∀ l : List Field, (fldL s pl l).length ≤ bulkLL (l.map Field.enc)
  | [] => by simp [fldL]
  | a :: r => by
    have h1 := fldL_len s pl r
    have h2 := usesF_len pl (s ++ [46] ++ a.name) a.dirs []
    have h3 := dirs_b a.dirs
    have h4 := argL_len (s ++ [46] ++ a.name) a.args
    simp only [fldL, List.length_append, List.map_cons, bulkLL, Field.enc, bulkL, T.bulk] at h1 ⊢; omega
theorem memL_len (s : Str) (pl : Int) : ∀ l : List Member, (memL s pl l).length ≤ bulkLL (l.map Member.enc)
  | [] => by simp [memL]
  | a :: r => by
    have h1 := memL_len s pl r
    have h2 := usesF_len pl (s ++ [46] ++ a.name) a.dirs []
    have h3 := dirs_b a.dirs
    simp only [memL, List.length_append, List.map_cons, bulkLL, Member.enc, bulkL, T.bulk] at h1 ⊢; omega
theorem inpL_len (s : Str) : ∀ l : List Input, (inpL s l).length ≤ bulkLL (l.map Input.enc)
  | [] => by simp [inpL]
  | a :: r => by
    have h1 := inpL_len s r
    have h2 := usesF_len 0 (s ++ [46] ++ a.name) a.dirs []
    have h3 := dirs_b a.dirs
    simp only [inpL, List.length_append, List.map_cons, bulkLL, Input.enc, bulkL, T.bulk] at h1 ⊢; omega
theorem partL_len (t : Def) : (partL t).length ≤ bulkLL (t.fields.map Field.enc) + bulkLL (t.members.map Member.enc) + bulkLL (t.inputs.map Input.enc) := by
  have h1 := fldL_len t.name 4 t.fields
  have h2 := fldL_len t.name 8 t.fields
  have h3 := memL_len t.name 0 t.members
  have h4 := memL_len t.name 16 t.members
  have h5 := inpL_len t.name t.inputs
  unfold partL
  split
  · omega
  · split
    · omega
    · split
      · omega
      · split
        · omega
        · split
          · omega
          · simp
theorem chkD_len : ∀ ds : List Def, (chkD ds).length ≤ bulkLL (ds.map Def.enc)
  | [] => by simp [chkD]
  | t :: r => by
    have h1 := chkD_len r
    have h2 := partL_len t
    have h3 := usesF_len (ownP t.kind) t.name t.dirs []
    have h4 := dirs_b t.dirs
    simp only [chkD, defL, List.length_append, List.map_cons, bulkLL, Def.enc, bulkL, T.bulk] at h1 ⊢; omega
end Go.GB.C23


/-
  F25L: moves: sizes of schemas; graphs as the laws want them.
-/
namespace Go.GB.C23
open Go.GB Go.GB.C11
set_option linter.unusedSimpArgs false
set_option linter.unusedVariables false
set_option maxRecDepth 100000
set_option maxHeartbeats 4000000
variable {P : Program}

/-- lengths of the parts of a definition -/
structure SzF (x : Field) : Prop where
  a : x.args.length ≤ 1048576
  d : x.dirs.length ≤ 1048576
structure SzD (t : Def) : Prop where
  i : t.implements.length ≤ 1048576
  d : t.dirs.length ≤ 1048576
  f : t.fields.length ≤ 1048576
  m : t.members.length ≤ 1048576
  n : t.inputs.length ≤ 1048576
  x : ∀ x, x ∈ t.fields → SzF x
def szF : List Field → Nat → Nat
  | [], n => n
  | x :: r, n => if n ≤ 400 then szF r (n + x.args.length + x.dirs.length) else n
def szD : List Def → Nat → Nat
  | [], n => n
  | t :: r, n => if n ≤ 400 then szD r (szF t.fields (n + t.implements.length + t.dirs.length + t.fields.length + t.members.length + t.inputs.length)) else n
theorem size_ok (H : Pr25 P) (ds : List Def) (hl : ds.length ≤ 1048576) (hs : ∀ t, t ∈ ds → SzD t) : FnOk P 58 [docV ds, .t (.int .i64 400)] ⟨[], 0⟩ { v := .t (.int .i64 ((szD ds ds.length : Nat) : Int)) } := by
  refine FnOk.run H.i58 H.mixed rfl rfl ?_
  refine fR rfl ?_
  refine lM rfl rfl rfl ?_
  refine fM rfl ?_
  refine rList ds (fun i (n : Nat) => { env := [(1, .t (.int .i64 400)), (2, .ptr 0 0), (5, .t (.int .i64 n)), (6, .t (.int .i64 i))], s := ⟨[(0, .cells [.t (.lst (ds.map Def.enc))])], 1⟩ }) (fun r i n => szD ds ds.length = szD r n ∧ n ≤ 10000000) 1 ds.length rfl ⟨rfl, by omega⟩ rfl rfl rfl ?_ ?_
  · rintro n ⟨hn, _⟩
    have hn' : szD ds ds.length = n := hn
    refine fR rfl ?_
    refine lM rfl rfl rfl ?_
    refine fM rfl ?_
    refine Run.condF rfl rfl (by simp) ?_
    refine fR rfl ?_
    refine Run.fin rfl (EndOk.go ?_); exact .t (by rw [hn'])
  · rintro i t r n h1 hi hd ⟨hn, hn2⟩ ih
    have ht := hs t (List.mem_of_getElem? h1)
    have t1 := ht.i
    have t2 := ht.d
    have t3 := ht.f
    have t4 := ht.m
    have t5 := ht.n
    refine fR rfl ?_
    refine lM rfl rfl rfl ?_
    refine fM rfl ?_
    by_cases hc : n ≤ 400
    · rw [szD, if_pos hc] at hn
      refine Run.condT rfl rfl (by simp; omega) ?_
      refine fR rfl ?_
      refine Mid.elemMap rfl rfl rfl h1 rfl rfl ?_
      refine fM rfl ?_
      refine lM rfl rfl rfl ?_
      refine aN rfl rfl rfl ?_
      refine fM rfl ?_
      refine lM rfl rfl rfl ?_
      refine aN rfl rfl rfl ?_
      refine fM rfl ?_
      refine lM rfl rfl rfl ?_
      refine aN rfl rfl rfl ?_
      refine fM rfl ?_
      refine lM rfl rfl rfl ?_
      refine aN rfl rfl rfl ?_
      refine fM rfl ?_
      refine lM rfl rfl rfl ?_
      refine aN rfl rfl rfl ?_
      refine fM rfl ?_
      refine rList t.fields (fun j (m : Nat) => { env := [(1, .t (.int .i64 400)), (2, .ptr 0 0), (5, .t (.int .i64 m)), (6, .t (.int .i64 i)), (7, .ptr 1 0), (8, .t (.int .i64 j))], s := ⟨[(0, .cells [.t (.lst (ds.map Def.enc))]), (1, (.cells [.t (.int .i64 t.kind), .t (.str t.name), .t (.lst (t.implements.map sE)), .t (.lst (t.dirs.map Dir.enc)), .t (.lst (t.fields.map Field.enc)), .t (.lst (t.members.map Member.enc)), .t (.lst (t.inputs.map Input.enc))]))], 2⟩ }) (fun r2 j m => szD ds ds.length = szD r (szF r2 m) ∧ m ≤ 10000000) 2 (n + t.implements.length + t.dirs.length + t.fields.length + t.members.length + t.inputs.length) rfl ⟨hn, by omega⟩ rfl rfl rfl ?_ ?_
      · rintro m ⟨hm, hm2⟩
        refine fR rfl ?_
        refine lM rfl rfl rfl ?_
        refine fM rfl ?_
        refine Run.condF rfl rfl (by simp) ?_
        refine fR rfl ?_
        refine aL rfl rfl rfl rfl rfl ?_
        refine fM rfl ?_
        exact rWeak 1 rfl (ih m ⟨hm, hm2⟩) rfl rfl rfl
      · rintro j x r2 m h2 hj hjd ⟨hm, hm2⟩ ih2
        have hx := ht.x x (List.mem_of_getElem? h2)
        have x1 := hx.a
        have x2 := hx.d
        refine fR rfl ?_
        refine lM rfl rfl rfl ?_
        refine fM rfl ?_
        by_cases hc2 : m ≤ 400
        · rw [szF, if_pos hc2] at hm
          refine Run.condT rfl rfl (by simp; omega) ?_
          refine fR rfl ?_
          refine Mid.elemMap rfl rfl rfl h2 rfl rfl ?_
          refine fM rfl ?_
          refine lM rfl rfl rfl ?_
          refine aN rfl rfl rfl ?_
          refine fM rfl ?_
          refine Mid.elemMap rfl rfl rfl h2 rfl rfl ?_
          refine fM rfl ?_
          refine lM rfl rfl rfl ?_
          refine aN rfl rfl rfl ?_
          refine fM rfl ?_
          refine aL rfl rfl rfl rfl rfl ?_
          refine fM rfl ?_
          exact rWeak 2 rfl (ih2 (m + x.args.length + x.dirs.length) ⟨hm, by omega⟩) rfl rfl rfl
        · rw [szF, if_neg hc2] at hm
          refine Run.condF rfl rfl (by simp; omega) ?_
          refine fR rfl ?_
          refine aL rfl rfl rfl rfl rfl ?_
          refine fM rfl ?_
          exact rWeak 1 rfl (ih m ⟨hm, hm2⟩) rfl rfl rfl
    · rw [szD, if_neg hc] at hn
      refine Run.condF rfl rfl (by simp; omega) ?_
      refine fR rfl ?_
      refine Run.fin rfl (EndOk.go ?_); exact .t (by rw [hn])
def bigG (g : Graph) : Bool := decide (((szD g.doc g.doc.length : Nat) : Int) > 400)
def largeG (gs : List Graph) : Bool := decide ((gs.length : Int) > 8) || gs.any bigG
/-- graphs of bounded bulk -/
structure GBu (g : Graph) : Prop where
  ok : DocOk g.doc
  n : g.name.length ≤ 140737488355328
  b : bulkLL (g.doc.map Def.enc) ≤ 1048576
theorem szF_of {x : Field} (hb : bulkL x.enc ≤ 1048576) : SzF x := by
  have h1 := len_bulk inp_b x.args
  have h2 := dirs_b x.dirs
  simp only [Field.enc, bulkL, T.bulk] at hb
  exact ⟨by omega, by omega⟩
theorem szD_of {t : Def} (hb : bulkL t.enc ≤ 1048576) : SzD t := by
  have h1 := len_bulk fld_b t.fields
  have h2 := dirs_b t.dirs
  have h3 := len_bulk mem_b t.members
  have h4 := len_bulk inp_b t.inputs
  have h5 := len_bulk (f := sE) (fun x => by simp only [sE, bulkL, T.bulk]; omega) t.implements
  simp only [Def.enc, bulkL, T.bulk] at hb
  exact ⟨by omega, by omega, by omega, by omega, by omega, fun x hx => szF_of (by have := mem_bulk (f := Field.enc) hx; omega)⟩
theorem GBu.sz {g : Graph} (h : GBu g) : ∀ t, t ∈ g.doc → SzD t := fun t ht => szD_of (by have := mem_bulk (f := Def.enc) ht; have := h.b; omega)
theorem GBu.l {g : Graph} (h : GBu g) : g.doc.length ≤ 1048576 := docL_of h.b
theorem dk_of {l : List Dir} (ho : ∀ d, d ∈ l → d.Ok) (hb : bulkLL (l.map Dir.enc) ≤ 1048576) : DK l := ⟨by have := dirs_b l; omega, (dsok_of ho hb).all⟩
theorem fk_of {x : Field} (ho : x.Ok) (hb : bulkL x.enc ≤ 1048576) : FK x := by
  simp only [Field.enc, bulkL, T.bulk] at hb
  have := ho.t.l
  exact ⟨dk_of ho.d (by omega), ho.al, by omega, ho.nm⟩
theorem tk_of {t : Def} (ho : t.Ok) (hb : bulkL t.enc ≤ 1048576) : TK t := by
  simp only [Def.enc, bulkL, T.bulk] at hb
  have := len_bulk fld_b t.fields
  exact ⟨dk_of ho.d (by omega), by omega, fun x hx => fk_of (ho.f x hx) (by have := mem_bulk (f := Field.enc) hx; omega), ho.nm⟩
theorem GBu.k {g : Graph} (h : GBu g) : GK g.doc := ⟨h.ok, h.l, fun t ht => tk_of (h.ok.d t ht) (by have := mem_bulk (f := Def.enc) ht; have := h.b; omega)⟩
theorem GBu.d {g : Graph} (h : GBu g) : ∀ t, t ∈ g.doc → DefD t := docD_of h.ok h.b
theorem GBu.c {g : Graph} (h : GBu g) : (chkD g.doc).length ≤ 1048576 := Nat.le_trans (chkD_len _) h.b
theorem GBu.i {g : Graph} (h : GBu g) : ∀ o, o ∈ g.doc → o.inputs.length ≤ 2199023255552 := fun o ho => by have := (h.sz o ho).n; omega

theorem large25_ok (H : Pr25 P) (gs : List Graph) (hl : gs.length ≤ 140737488355328) (hb : ∀ g, g ∈ gs → GBu g) : FnOk P 30 [.t (.lst (gs.map Graph.enc))] ⟨[], 0⟩ { v := .t (.bool (largeG gs)) } := by
  refine FnOk.run H.i30 H.mixed rfl rfl ?_
  refine fR rfl ?_
  refine lM rfl rfl rfl ?_
  refine fM rfl ?_
  refine Run.cond rfl rfl (fun h => ?_) (fun h => ?_)
  · have h' : decide ((gs.length : Int) > 8) = true := h
    refine fR rfl ?_
    refine Run.fin rfl (EndOk.go ?_); exact .t (by unfold largeG; rw [h']; rfl)
  · have h' : decide ((gs.length : Int) > 8) = false := h
    have e : largeG gs = gs.any bigG := by unfold largeG; rw [h']; rfl
    rw [e]
    refine fR rfl ?_
    refine rList gs (fun i (_ : Unit) => { env := [(0, .t (.lst (gs.map Graph.enc))), (3, .t (.int .i64 i))], s := ⟨[], 0⟩ }) (fun r i _ => gs.any bigG = r.any bigG) 0 () rfl rfl rfl rfl rfl ?_ ?_
    · intro _ hinv
      refine fR rfl ?_
      refine lM rfl rfl rfl ?_
      refine fM rfl ?_
      refine Run.condF rfl rfl (by simp) ?_
      refine fR rfl ?_
      refine Run.fin rfl (EndOk.go ?_); exact .t (by rw [hinv]; rfl)
    · intro i g r _ h1 hi hd hinv ih
      have hg := hb g (List.mem_of_getElem? h1)
      refine fR rfl ?_
      refine lM rfl rfl rfl ?_
      refine fM rfl ?_
      refine Run.condT rfl rfl (by simp; omega) ?_
      refine fR rfl ?_
      refine Mid.elemMap rfl rfl rfl h1 rfl rfl ?_
      refine fM rfl ?_
      refine Mid.call (size_ok H g.doc hg.l hg.sz) rfl rfl rfl rfl ?_
      refine fM rfl ?_
      refine Run.cond rfl rfl (fun hc => ?_) (fun hc => ?_)
      · have hc' : bigG g = true := hc
        refine fR rfl ?_
        refine Run.fin rfl (EndOk.go ?_); exact .t (by rw [hinv, List.any_cons, hc']; rfl)
      · have hc' : bigG g = false := hc
        refine fR rfl ?_
        refine aL rfl rfl rfl rfl rfl ?_
        refine fM rfl ?_
        exact rWeak 0 rfl (ih () (by rw [hinv, List.any_cons, hc']; rfl)) rfl rfl rfl
def faultyG (g : Graph) : Bool := decide (((checkF g.doc false).length : Int) > 0) || decide (((chkD g.doc).length : Int) > 0)
def rightG (gs : List Graph) : Bool := !((gs.length : Int) == 0 || decide ((gs.length : Int) > 8)) && !gs.any faultyG
theorem right25_ok (H : Pr25 P) (gs : List Graph) (hl : gs.length ≤ 140737488355328) (hb : ∀ g, g ∈ gs → GBu g) : FnOk P 31 [.t (.lst (gs.map Graph.enc))] ⟨[], 0⟩ { v := .t (.bool (rightG gs)) } := by
  refine FnOk.run H.i31 H.mixed rfl rfl ?_
  refine fR rfl ?_
  refine lM rfl rfl rfl ?_
  refine fM rfl ?_
  refine lMG rfl rfl rfl rfl ?_
  refine fM rfl ?_
  refine Run.cond rfl rfl (fun h => ?_) (fun h => ?_)
  · have h' : ((gs.length : Int) == 0 || decide ((gs.length : Int) > 8)) = true := h
    refine fR rfl ?_
    refine Run.fin rfl (EndOk.go ?_); exact .t (by unfold rightG; rw [h']; rfl)
  · have h' : ((gs.length : Int) == 0 || decide ((gs.length : Int) > 8)) = false := h
    have e : rightG gs = !gs.any faultyG := by unfold rightG; rw [h']; rfl
    rw [e]
    refine fR rfl ?_
    refine rList gs (fun i (_ : Unit) => { env := [(0, .t (.lst (gs.map Graph.enc))), (3, .t (.int .i64 i))], s := ⟨[], 0⟩ }) (fun r i _ => gs.any faultyG = r.any faultyG) 0 () rfl rfl rfl rfl rfl ?_ ?_
    · intro _ hinv
      refine fR rfl ?_
      refine lM rfl rfl rfl ?_
      refine fM rfl ?_
      refine Run.condF rfl rfl (by simp) ?_
      refine fR rfl ?_
      refine Run.fin rfl (EndOk.go ?_); exact .t (by rw [hinv]; rfl)
    · intro i g r _ h1 hi hd hinv ih
      have hgb := hb g (List.mem_of_getElem? h1)
      have hcl := check_lenR hgb.b false
      have hdl := hgb.c
      have hgl := hgb.l
      have h5 := check_ok H.toPr g.doc hgb.ok hgb.i false hcl
      have h6 := rCheck_ok H.toPr23 g.doc (by omega) hgb.d (by omega)
      refine fR rfl ?_
      refine lM rfl rfl rfl ?_
      refine fM rfl ?_
      refine Run.condT rfl rfl (by simp; omega) ?_
      refine fR rfl ?_
      refine Mid.elemMap rfl rfl rfl h1 rfl rfl ?_
      refine fM rfl ?_
      refine Mid.call (h5) rfl rfl rfl rfl ?_
      refine lM rfl rfl rfl ?_
      refine fM rfl ?_
      refine elG rfl rfl rfl rfl h1 rfl rfl ?_
      refine fM rfl ?_
      refine caG rfl rfl (fun hg => ⟨_, rfl, h6, rfl⟩) rfl rfl ?_
      refine lMG rfl rfl rfl rfl ?_
      refine fM rfl ?_
      refine Run.cond rfl rfl (fun hc => ?_) (fun hc => ?_)
      · have hc' : faultyG g = true := hc
        refine fR rfl ?_
        refine Run.fin rfl (EndOk.go ?_); exact .t (by rw [hinv, List.any_cons, hc']; rfl)
      · have hc' : faultyG g = false := hc
        refine fR rfl ?_
        refine aL rfl rfl rfl rfl rfl ?_
        refine fM rfl ?_
        exact rWeak 0 rfl (ih () (by rw [hinv, List.any_cons, hc']; rfl)) rfl rfl rfl
end Go.GB.C23


/-
  F25M: moves: the order of graphs does not matter; the law.
-/
namespace Go.GB.C23
open Go.GB Go.GB.C11
set_option linter.unusedSimpArgs false
set_option linter.unusedVariables false
set_option maxRecDepth 100000
set_option maxHeartbeats 4000000
variable {P : Program}

/- how many keys, joins and violations -/
theorem kDefs_len (i : Nat) : ∀ ds : List Def, (kDefs i ds).length ≤ bulkLL (ds.map Def.enc)
  | [] => by simp [kDefs]
  | t :: r => by
    have h1 := kDefs_len i r
    have h2 := keysD_len t.dirs
    have h3 := dirs_b t.dirs
    simp only [kDefs, kDef, List.length_append, List.map_cons, bulkLL, Def.enc, bulkL, T.bulk] at h1 ⊢
    split
    · simp only [List.length_map]; omega
    · simp only [List.length_nil]; omega
theorem jDefs_len (i : Nat) : ∀ ds : List Def, (jDefs i ds).length ≤ bulkLL (ds.map Def.enc)
  | [] => by simp [jDefs]
  | t :: r => by
    have h1 := jDefs_len i r
    have h3 := len_bulk fld_b t.fields
    simp only [jDefs, jDef, List.length_append, List.map_cons, bulkLL, Def.enc, bulkL, T.bulk] at h1 ⊢
    split
    · simp only [List.length_map]; omega
    · simp only [List.length_nil]; omega
theorem fL_len (gs : List Graph) (i : Nat) (g : Graph) (t : Def) : ∀ l : List Field, (fL gs i g t l).length ≤ 4 * l.length
  | [] => by simp [fL]
  | x :: r => by
    have h1 := fL_len gs i g t r
    have h2 := fieldF_len gs i g t x
    simp only [fL, List.length_append, List.length_cons]; omega
theorem bDefs_len (gs : List Graph) (i : Nat) (g : Graph) : ∀ ds : List Def, (bDefs gs i g ds).length ≤ 4 * bulkLL (ds.map Def.enc)
  | [] => by simp [bDefs]
  | t :: r => by
    have h1 := bDefs_len gs i g r
    have h2 := keyL_len g t (keysD t.dirs) 0
    have h3 := keysD_len t.dirs
    have h4 := dirs_b t.dirs
    have h5 := fL_len gs i g t t.fields
    have h6 := len_bulk fld_b t.fields
    simp only [bDefs, bDef, List.length_append, List.map_cons, bulkLL, Def.enc, bulkL, T.bulk] at h1 ⊢
    split
    · simp only [List.length_append]; omega
    · simp only [List.length_nil]; omega
theorem graph_b (g : Graph) : bulkLL (g.doc.map Def.enc) + 1 ≤ bulkL g.enc := by simp only [Graph.enc, bulkL, T.bulk]; omega
theorem kAll_len : ∀ (gs : List Graph) (i : Nat), (kAll i gs).length ≤ bulkLL (gs.map Graph.enc)
  | [], i => by simp [kAll]
  | g :: r, i => by
    have h1 := kAll_len r (i + 1)
    have h2 := kDefs_len i g.doc
    have h3 := graph_b g
    simp only [kAll, List.length_append, List.map_cons, bulkLL]; omega
theorem jAll_len : ∀ (gs : List Graph) (i : Nat), (jAll i gs).length ≤ bulkLL (gs.map Graph.enc)
  | [], i => by simp [jAll]
  | g :: r, i => by
    have h1 := jAll_len r (i + 1)
    have h2 := jDefs_len i g.doc
    have h3 := graph_b g
    simp only [jAll, List.length_append, List.map_cons, bulkLL]; omega
theorem bAll_len (G : List Graph) : ∀ (gs : List Graph) (i : Nat), (bAll G i gs).length ≤ 4 * bulkLL (gs.map Graph.enc)
  | [], i => by simp [bAll]
  | g :: r, i => by
    have h1 := bAll_len G r (i + 1)
    have h2 := bDefs_len G i g g.doc
    have h3 := graph_b g
    simp only [bAll, List.length_append, List.map_cons, bulkLL]; omega
/-- graphs whose bulk is bounded -/
structure GsOk (gs : List Graph) : Prop where
  o : ∀ g, g ∈ gs → DocOk g.doc ∧ g.name.length ≤ 140737488355328
  b : bulkLL (gs.map Graph.enc) ≤ 1048576
theorem GsOk.l {gs : List Graph} (h : GsOk gs) : gs.length ≤ 1048576 := by
  have := len_bulk (f := Graph.enc) (fun g => by have := graph_b g; omega) gs
  have := h.b; omega
theorem GsOk.u {gs : List Graph} (h : GsOk gs) : ∀ g, g ∈ gs → GBu g := fun g hg =>
  ⟨(h.o g hg).1, (h.o g hg).2, by have h1 := mem_bulk (f := Graph.enc) hg; have h2 := graph_b g; have h3 := h.b; omega⟩
theorem GsOk.j {gs : List Graph} (h : GsOk gs) : JoinsB gs := by
  have h1 := kAll_len gs 0
  have h2 := jAll_len gs 0
  have h3 := bAll_len gs gs 0
  have h4 := h.l
  have h5 := h.b
  exact ⟨by omega, fun g hg => (h.u g hg).k, fun g hg => (h.o g hg).2, by omega, by omega, by omega⟩
/- sums along graphs -/
theorem othM_iff (a : Nat) (n f : Str) : ∀ (l : List Graph) (i : Nat), othM a n f i l = true ↔ ∃ (j : Nat) (g : Graph), l[j]? = some g ∧ i + j ≠ a ∧ resM g.doc n f = true
  | [], i => by simp [othM]
  | g :: r, i => by
    rw [othM, Bool.or_eq_true, Bool.and_eq_true, othM_iff a n f r (i + 1)]
    constructor
    · rintro (⟨h1, h2⟩ | ⟨j, x, h1, h2, h3⟩)
      · exact ⟨0, g, rfl, by simp at h1; omega, h2⟩
      · exact ⟨j + 1, x, by simpa using h1, by omega, h3⟩
    · rintro ⟨j, x, h1, h2, h3⟩
      cases j with
      | zero =>
        simp at h1; subst h1
        exact .inl ⟨by simp; omega, h3⟩
      | succ j => exact .inr ⟨j, x, by simpa using h1, by omega, h3⟩
end Go.GB.C23


/-
  F25N: moves: what no violations mean; the law.
-/
namespace Go.GB.C23
open Go.GB Go.GB.C11
set_option linter.unusedSimpArgs false
set_option linter.unusedVariables false
set_option maxRecDepth 100000
set_option maxHeartbeats 4000000
variable {P : Program}

def KeyO.v (k : KeyO) : V := .agg [.t (.str k.ty), .t (.int .i64 k.graph), .t (.lst (k.fields.map sE))]
theorem keyed_ok (H : Pr25 P) (gs : List Graph) (i : Nat) (g : Graph) (ha : gs[i]? = some g) (gk : GK g.doc) (t : Def) (ht : TK t) (hf : findDef t.name g.doc = some t) (k : List Str) (hk1 : 1 ≤ k.length) (hk4 : k.length ≤ 4)
    (hn : ∀ n, n ∈ k → (findField n t.fields).isSome = true ∧ ((findField n t.fields).getD Field.zero).args.length = 0) (hd : k.Nodup) : FnOk P 34 [.t (.lst (gs.map Graph.enc)), (keyOf i t k).v] ⟨[], 0⟩ { v := .t (.bool true) } := by
  have hil : i < gs.length := (List.getElem?_eq_some_iff.1 ha).1
  have hfl := ht.fl
  have h1 := find_ok H.toPr g.doc gk.len t.name
  rw [hf] at h1
  refine FnOk.run H.i34 H.mixed rfl rfl ?_
  refine fR rfl ?_
  refine lMG rfl rfl rfl rfl ?_
  refine fM rfl ?_
  refine lMG rfl rfl rfl rfl ?_
  refine fM rfl ?_
  refine lMG rfl rfl rfl rfl ?_
  refine fM rfl ?_
  have hkn : ¬ k = [] := by intro e; rw [e] at hk1; simp at hk1
  refine Run.condF rfl rfl (by show (((decide ((i : Int) < 0) || decide ((i : Int) ≥ (gs.length : Int))) || decide ((k.length : Int) < 1)) || decide ((k.length : Int) > 4)) = false; rw [decide_eq_false (by omega), decide_eq_false (by omega), decide_eq_false (by omega), decide_eq_false (by omega)]; rfl) ?_
  refine fR rfl ?_
  refine Mid.elemMap rfl rfl rfl ha rfl rfl ?_
  refine fM rfl ?_
  refine Mid.call (h1) rfl rfl rfl rfl ?_
  refine fM rfl ?_
  refine rList k (fun j (_ : Unit) => { env := [(3, .ptr 0 0), (5, .ptr 1 0), (6, .t (.bool true)), (7, .t (.int .i64 j))], s := ⟨[(0, .cells [.t (.str t.name), .t (.int .i64 i), .t (.lst (k.map sE))]), (1, (.cells [.t (.int .i64 t.kind), .t (.str t.name), .t (.lst (t.implements.map sE)), .t (.lst (t.dirs.map Dir.enc)), .t (.lst (t.fields.map Field.enc)), .t (.lst (t.members.map Member.enc)), .t (.lst (t.inputs.map Input.enc))]))], 2⟩ }) (fun r j _ => True) 2 () rfl trivial rfl rfl rfl ?_ ?_
  · rintro _ _
    refine fR rfl ?_
    refine lM rfl rfl rfl ?_
    refine fM rfl ?_
    refine Run.condF rfl rfl (by simp) ?_
    refine fR rfl ?_
    refine Run.fin rfl (EndOk.go ?_); exact .t rfl
  · rintro j n r _ h2 hj hjd _ ih
    have hnn := hn n (List.mem_of_getElem? h2)
    have e1 := hnn.1
    have e2 := hnn.2
    refine fR rfl ?_
    refine lM rfl rfl rfl ?_
    refine fM rfl ?_
    refine Run.condT rfl rfl (by simp; omega) ?_
    refine fR rfl ?_
    refine Mid.elemMap rfl rfl rfl h2 rfl rfl ?_
    refine fM rfl ?_
    refine Mid.call (fieldOf_ok H.toPr t (by omega) n) rfl rfl rfl rfl ?_
    refine fM rfl ?_
    refine lMG rfl rfl rfl rfl ?_
    refine fM rfl ?_
    generalize (findField n t.fields).getD Field.zero = F at e2 ⊢
    rw [e1]
    have e3 : ((F.args.length : Int) == 0) = true := by rw [e2]; rfl
    skip
    rw [e3]
    skip
    refine rList (k.take j) (fun m (_ : Unit) => { env := [(3, .ptr 0 0), (5, .ptr 1 0), (6, .t (.bool true)), (7, .t (.int .i64 j)), (10, .t (.int .i64 m))], s := ⟨[(0, .cells [.t (.str t.name), .t (.int .i64 i), .t (.lst (k.map sE))]), (1, (.cells [.t (.int .i64 t.kind), .t (.str t.name), .t (.lst (t.implements.map sE)), .t (.lst (t.dirs.map Dir.enc)), .t (.lst (t.fields.map Field.enc)), .t (.lst (t.members.map Member.enc)), .t (.lst (t.inputs.map Input.enc))]))], 2⟩ }) (fun r m _ => True) 2 () rfl trivial rfl rfl rfl ?_ ?_
    · rintro _ _
      refine fR rfl ?_
      refine Run.condF rfl rfl (by simp; omega) ?_
      refine fR rfl ?_
      refine aL rfl rfl rfl rfl rfl ?_
      refine fM rfl ?_
      exact rWeak 2 rfl (ih () trivial) rfl rfl rfl
    · rintro m y r2 _ h3 hm hmd _ ih2
      have hm' : m < j := by rw [List.length_take] at hm; omega
      have h3' : k[m]? = some y := by rw [List.getElem?_take_of_lt hm'] at h3; exact h3
      have hne : ¬ y = n := by
        intro e
        have := (List.getElem?_inj (i := m) (j := j) (by omega) hd).1 (by rw [h3', h2, e])
        omega
      refine fR rfl ?_
      refine Run.condT rfl rfl (by simp; omega) ?_
      refine fR rfl ?_
      refine elG rfl rfl rfl rfl h3' rfl rfl ?_
      refine fM rfl ?_
      refine elG rfl rfl rfl rfl h2 rfl rfl ?_
      refine fM rfl ?_
      refine aL rfl rfl rfl rfl rfl ?_
      refine fM rfl ?_
      exact rWeak 2 rfl (ih2 () trivial) rfl rfl rfl (he := (by repeat' (first | exact trivial | exact LeX.t | exact LeX.top | exact LeX.nilOwn (Nat.le_of_ble_eq_true rfl) (Nat.le_of_ble_eq_true rfl) | exact LeX.ownT | exact LeX.nilT | exact LeX.same rfl | exact LeX.tEq (by simp[hne]) | exact LeX.ownEq (by simp[hne]) (Nat.le_of_ble_eq_true rfl) | exact LeX.tEq (by congr 1 <;> omega) | exact Or.inr ⟨Nat.le_of_ble_eq_true rfl, Nat.le_of_ble_eq_true rfl, rfl⟩ | refine Or.inl ⟨Nat.le_of_ble_eq_true rfl, _, rfl, ?_⟩ | refine LeO.cells ?_ | exact LeO.arr rfl | exact LeO.arr (by simp[hne]) | exact LeO.mE (by first | rfl | simp[hne]) (by first | exact Or.inl rfl | exact Or.inr rfl) | exact LeO.cE (by first | rfl | simp[hne]) | exact LeXs.cE (by first | rfl | simp[hne]) | refine LeO.map (by first | rfl | simp) ?_ (by first | exact Or.inl rfl | exact Or.inr rfl) | exact LeO.iter (by first | rfl | simp) (Nat.le_of_ble_eq_true rfl) | refine LeXs.cons ?_ ?_ | exact LeXs.nil | refine And.intro ?_ ?_))) (hs := (by repeat' (first | exact trivial | exact LeX.t | exact LeX.top | exact LeX.nilOwn (Nat.le_of_ble_eq_true rfl) (Nat.le_of_ble_eq_true rfl) | exact LeX.ownT | exact LeX.nilT | exact LeX.same rfl | exact LeX.tEq (by simp[hne]) | exact LeX.ownEq (by simp[hne]) (Nat.le_of_ble_eq_true rfl) | exact LeX.tEq (by congr 1 <;> omega) | exact Or.inr ⟨Nat.le_of_ble_eq_true rfl, Nat.le_of_ble_eq_true rfl, rfl⟩ | refine Or.inl ⟨Nat.le_of_ble_eq_true rfl, _, rfl, ?_⟩ | refine LeO.cells ?_ | exact LeO.arr rfl | exact LeO.arr (by simp[hne]) | exact LeO.mE (by first | rfl | simp[hne]) (by first | exact Or.inl rfl | exact Or.inr rfl) | exact LeO.cE (by first | rfl | simp[hne]) | exact LeXs.cE (by first | rfl | simp[hne]) | refine LeO.map (by first | rfl | simp) ?_ (by first | exact Or.inl rfl | exact Or.inr rfl) | exact LeO.iter (by first | rfl | simp) (Nat.le_of_ble_eq_true rfl) | refine LeXs.cons ?_ ?_ | exact LeXs.nil | refine And.intro ?_ ?_)))

/- how many other joins of a field there are -/
def isO (j x : Jn) : Bool := ((x.ty == j.ty && x.field == j.field) && x.graph != j.graph) && !x.ext
def othN (j : Jn) : List Jn → Nat
  | [] => 0
  | x :: r => (if isO j x = true then 1 else 0) + othN j r
theorem othN_pos {j x : Jn} (hx : isO j x = true) : ∀ {l : List Jn}, x ∈ l → 1 ≤ othN j l
  | y :: r, h => by
    rw [othN]
    rcases List.mem_cons.1 h with rfl | h
    · rw [if_pos hx]; omega
    · have := othN_pos hx h; omega
theorem othN_zero {j : Jn} : ∀ {l : List Jn}, (∀ x, x ∈ l → isO j x = false) → othN j l = 0
  | [], _ => rfl
  | y :: r, h => by
    rw [othN, if_neg (by rw [h y (List.mem_cons_self ..)]; simp), othN_zero fun x hx => h x (List.mem_cons_of_mem _ hx)]
theorem others35_ok (H : Pr25 P) (js : List Jn) (hl : js.length ≤ 140737488355328) (j : Jn) : FnOk P 35 [.t (.lst (js.map Jn.enc)), j.v] ⟨[], 0⟩ { v := .t (.int .i64 ((othN j js : Nat) : Int)) } := by
  refine FnOk.run H.i35 H.mixed rfl rfl ?_
  refine fR rfl ?_
  refine rList js (fun i (n : Nat) => { env := [(0, .t (.lst (js.map Jn.enc))), (3, .ptr 0 0), (5, .t (.int .i64 n)), (6, .t (.int .i64 i))], s := ⟨[(0, .cells [.t (.str j.ty), .t (.str j.field), .t (.int .i64 j.graph), .t (.bool j.ext), .t (.lst (j.req.map sE)), .t (.lst (j.prov.map sE))])], 1⟩ }) (fun r i n => othN j js = n + othN j r ∧ n ≤ i) 1 0 rfl ⟨by simp, by omega⟩ rfl rfl rfl ?_ ?_
  · rintro n ⟨hn, _⟩
    refine fR rfl ?_
    refine lM rfl rfl rfl ?_
    refine fM rfl ?_
    refine Run.condF rfl rfl (by simp) ?_
    refine fR rfl ?_
    refine Run.fin rfl (EndOk.go ?_); exact .t (by rw [hn]; simp [othN])
  · rintro i x r n h1 hi hd ⟨hn, hn2⟩ ih
    rw [othN] at hn
    refine fR rfl ?_
    refine lM rfl rfl rfl ?_
    refine fM rfl ?_
    refine Run.condT rfl rfl (by simp; omega) ?_
    refine fR rfl ?_
    refine Mid.elemMap rfl rfl rfl h1 rfl rfl ?_
    refine fM rfl ?_
    refine elG rfl rfl rfl rfl h1 rfl rfl ?_
    refine fM rfl ?_
    refine elG rfl rfl rfl rfl h1 rfl rfl ?_
    refine fM rfl ?_
    refine elG rfl rfl rfl rfl h1 rfl rfl ?_
    refine fM rfl ?_
    refine Run.cond rfl rfl (fun h => ?_) (fun h => ?_)
    · have h' : isO j x = true := h
      rw [if_pos h'] at hn
      refine fR rfl ?_
      refine aL rfl rfl rfl rfl rfl ?_
      refine fM rfl ?_
      refine aL rfl rfl rfl rfl rfl ?_
      refine fM rfl ?_
      exact rWeak 1 rfl (ih (n + 1) ⟨by omega, by omega⟩) rfl rfl rfl
    · have h' : ¬ isO j x = true := by unfold isO; rw [h]; simp
      rw [if_neg h'] at hn
      refine fR rfl ?_
      refine aL rfl rfl rfl rfl rfl ?_
      refine fM rfl ?_
      exact rWeak 1 rfl (ih n ⟨by omega, by omega⟩) rfl rfl rfl

/- no violations -/
theorem foldl_keyN (ds : List Def) (t : Def) : ∀ (k : List Str) (b : Bool), k.foldl (keyN ds t) b = (b || k.any (keyN ds t false))
  | [], b => by simp
  | n :: r, b => by
    rw [List.foldl_cons, foldl_keyN ds t r, List.any_cons]
    have : keyN ds t b n = (b || keyN ds t false n) := by unfold keyN; simp [Bool.or_assoc]
    rw [this, Bool.or_assoc]
theorem ifM_nil {c : Bool} {x : Fault} (h : ifM c x = []) : c = false := by cases c <;> simp [ifM] at h ⊢
theorem keyL_nil {g : Graph} {t : Def} : ∀ {l : List (List Str)} {i : Nat}, keyL g t i l = [] → ∀ k, k ∈ l → ∃ i, keyB g.doc t i k = false
  | [], i, _, k, h => by cases h
  | x :: r, i, hc, k, h => by
    simp only [keyL, List.append_eq_nil_iff] at hc
    rcases List.mem_cons.1 h with rfl | h
    · exact ⟨i, ifM_nil hc.1⟩
    · exact keyL_nil hc.2 k h
theorem keyB_false {ds : List Def} {t : Def} {i : Nat} {k : List Str} (h : keyB ds t i k = false) : 1 ≤ k.length ∧ ∀ n, n ∈ k → (findField n t.fields).isSome = true ∧ ((findField n t.fields).getD Field.zero).args.length = 0 := by
  unfold keyB at h
  rw [foldl_keyN] at h
  simp only [Bool.or_eq_false_iff] at h
  refine ⟨by have := h.1.2; simp at this; cases k with | nil => simp at this | cons => simp, fun n hn => ?_⟩
  have := h.2
  rw [List.any_eq_false] at this
  have := this n hn
  unfold keyN at this
  simp at this
  exact ⟨Option.isSome_iff_ne_none.2 this.1.1, by first | exact this.1.2 | (rw [this.1.2]; rfl) | simp [this.1.2]⟩
theorem fL_nil {gs : List Graph} {i : Nat} {g : Graph} {t : Def} : ∀ {l : List Field}, fL gs i g t l = [] → ∀ x, x ∈ l → fieldF gs i g t x = []
  | [], _, x, h => by cases h
  | y :: r, hc, x, h => by
    simp only [fL, List.append_eq_nil_iff] at hc
    rcases List.mem_cons.1 h with rfl | h
    · exact hc.1
    · exact fL_nil hc.2 x h
theorem bDefs_nil {gs : List Graph} {i : Nat} {g : Graph} : ∀ {l : List Def}, bDefs gs i g l = [] → ∀ t, t ∈ l → bDef gs i g t = []
  | [], _, x, h => by cases h
  | y :: r, hc, x, h => by
    simp only [bDefs, List.append_eq_nil_iff] at hc
    rcases List.mem_cons.1 h with rfl | h
    · exact hc.1
    · exact bDefs_nil hc.2 x h
theorem bAll_nil {G : List Graph} : ∀ {l : List Graph} {i : Nat}, bAll G i l = [] → ∀ j g, l[j]? = some g → bDefs G (i + j) g g.doc = []
  | [], i, _, j, g, h => by simp at h
  | y :: r, i, hc, j, g, h => by
    simp only [bAll, List.append_eq_nil_iff] at hc
    cases j with
    | zero => simp at h; subst h; exact hc.1
    | succ j =>
      have := bAll_nil hc.2 j g (by simpa using h)
      rwa [show i + (j + 1) = i + 1 + j by omega]
theorem kDefs_mem {i : Nat} {k : KeyO} : ∀ {l : List Def}, k ∈ kDefs i l → ∃ t ks, t ∈ l ∧ t.kind = 1 ∧ ks ∈ keysD t.dirs ∧ k = keyOf i t ks
  | [], h => by cases h
  | t :: r, h => by
    rw [kDefs] at h
    rcases List.mem_append.1 h with h | h
    · unfold kDef at h
      split at h
      · rename_i hk
        obtain ⟨ks, h1, rfl⟩ := List.mem_map.1 h
        exact ⟨t, ks, List.mem_cons_self .., hk, h1, rfl⟩
      · cases h
    · obtain ⟨t', ks, h1, h2⟩ := kDefs_mem h
      exact ⟨t', ks, List.mem_cons_of_mem _ h1, h2⟩
theorem kAll_mem {k : KeyO} : ∀ {l : List Graph} {i : Nat}, k ∈ kAll i l → ∃ (j : Nat) (g : Graph) (t : Def) (ks : List Str), l[j]? = some g ∧ t ∈ g.doc ∧ t.kind = 1 ∧ ks ∈ keysD t.dirs ∧ k = keyOf (i + j) t ks
  | [], i, h => by cases h
  | g :: r, i, h => by
    rw [kAll] at h
    rcases List.mem_append.1 h with h | h
    · obtain ⟨t, ks, h1, h2, h3, h4⟩ := kDefs_mem h
      exact ⟨0, g, t, ks, rfl, h1, h2, h3, h4⟩
    · obtain ⟨j, g', t, ks, h1, h2⟩ := kAll_mem h
      exact ⟨j + 1, g', t, ks, by simpa using h1, by rw [show i + (j + 1) = i + 1 + j by omega]; exact h2⟩
theorem jDefs_mem {i : Nat} {k : Jn} : ∀ {l : List Def}, k ∈ jDefs i l ↔ ∃ t x, t ∈ l ∧ t.kind = 1 ∧ x ∈ t.fields ∧ k = jnOf i t x
  | [] => by simp [jDefs]
  | t :: r => by
    rw [jDefs, List.mem_append, jDefs_mem]
    constructor
    · rintro (h | ⟨t', x, h1, h2⟩)
      · unfold jDef at h
        split at h
        · rename_i hk
          obtain ⟨x, h1, rfl⟩ := List.mem_map.1 h
          exact ⟨t, x, List.mem_cons_self .., hk, h1, rfl⟩
        · cases h
      · exact ⟨t', x, List.mem_cons_of_mem _ h1, h2⟩
    · rintro ⟨t', x, h1, h2, h3, rfl⟩
      rcases List.mem_cons.1 h1 with rfl | h1
      · left; unfold jDef; rw [if_pos h2]; exact List.mem_map.2 ⟨x, h3, rfl⟩
      · exact .inr ⟨t', x, h1, h2, h3, rfl⟩
theorem jAll_mem {k : Jn} : ∀ {l : List Graph} {i : Nat}, k ∈ jAll i l ↔ ∃ (j : Nat) (g : Graph) (t : Def) (x : Field), l[j]? = some g ∧ t ∈ g.doc ∧ t.kind = 1 ∧ x ∈ t.fields ∧ k = jnOf (i + j) t x
  | [], i => by simp [jAll]
  | g :: r, i => by
    rw [jAll, List.mem_append, jDefs_mem, jAll_mem]
    constructor
    · rintro (⟨t, x, h1, h2, h3, h4⟩ | ⟨j, g', t, x, h1, h2⟩)
      · exact ⟨0, g, t, x, rfl, h1, h2, h3, h4⟩
      · exact ⟨j + 1, g', t, x, by simpa using h1, by rw [show i + (j + 1) = i + 1 + j by omega]; exact h2⟩
    · rintro ⟨j, g', t, x, h1, h2⟩
      cases j with
      | zero => simp at h1; subst h1; exact .inl ⟨t, x, h2⟩
      | succ j => exact .inr ⟨j, g', t, x, by simpa using h1, by rw [show i + 1 + j = i + (j + 1) by omega]; exact h2⟩
theorem dupS_nodup : ∀ {l pre : List Str}, dupS pre l = false → (∀ x, x ∈ l → ¬ x ∈ pre) ∧ l.Nodup
  | [], pre, _ => ⟨by simp, List.nodup_nil⟩
  | x :: r, pre, h => by
    simp only [dupS, Bool.or_eq_false_iff, decide_eq_false_iff_not] at h
    obtain ⟨h1, h2⟩ := dupS_nodup h.2
    refine ⟨fun y hy => ?_, List.nodup_cons.2 ⟨fun hx => h1 x hx (by simp), h2⟩⟩
    rcases List.mem_cons.1 hy with rfl | hy
    · exact h.1
    · exact fun hp => h1 y hy (List.mem_append_left _ hp)
theorem setF_nodup (s : Str) : (setF s).1.Nodup := by
  unfold setF setL
  split
  · exact List.nodup_nil
  · split
    · exact List.nodup_nil
    · split
      · exact List.nodup_nil
      · rename_i h
        exact (dupS_nodup (by simpa using h)).2
theorem keysD_nodup {k : List Str} : ∀ {l : List Dir}, k ∈ keysD l → k.Nodup
  | [], h => by cases h
  | d :: r, h => by
    rw [keysD] at h
    rcases List.mem_append.1 h with h | h
    · split at h
      · simp at h; rw [h]; exact setF_nodup _
      · cases h
    · exact keysD_nodup h
theorem argD_none {n a : Str} : ∀ {l : List Dir}, hasD n l = false → argD n a l = none
  | [], _ => rfl
  | d :: r, h => by
    unfold hasD at h
    rw [List.any_cons, Bool.or_eq_false_iff] at h
    rw [argD, if_neg (by have := h.1; simp at this; exact this)]
    exact argD_none (by unfold hasD; exact h.2)
theorem setM_none {n : Str} {l : List Dir} (h : hasD n l = false) : setM l n = [] := by
  unfold setM
  rw [argD_none h]
  rfl
theorem findField_name {n : Str} : ∀ {l : List Field} {d : Field}, findField n l = some d → d.name = n
  | [], d, h => by simp [findField] at h
  | x :: r, d, h => by
    simp only [findField] at h
    split at h
    · rename_i hn; cases h; simpa using hn
    · exact findField_name h
/-- no violations of a schema's own -/
def Sane (gs : List Graph) : Prop := ∀ g, g ∈ gs → checkF g.doc false = []
theorem resM_iff {g : Graph} (hs : checkF g.doc false = []) {n f : Str} : resM g.doc n f = true ↔ ∃ t x, t ∈ g.doc ∧ t.kind = 1 ∧ x ∈ t.fields ∧ t.name = n ∧ x.name = f ∧ hasD ([101, 120, 116, 101, 114, 110, 97, 108] : Str) x.dirs = false := by
  constructor
  · intro h
    unfold resM at h
    simp only [Bool.and_eq_true] at h
    obtain ⟨⟨⟨h1, h2⟩, h3⟩, h4⟩ := h
    obtain ⟨t, ht⟩ := Option.isSome_iff_exists.1 h1
    rw [ht] at h2 h3 h4
    simp only [Option.getD_some] at h2 h3 h4
    obtain ⟨x, hx⟩ := Option.isSome_iff_exists.1 h2
    rw [hx] at h4
    simp only [Option.getD_some] at h4
    exact ⟨t, x, findDef_mem ht, by simpa using h3, findField_mem hx, findDef_name ht, findField_name hx, by simpa using h4⟩
  · rintro ⟨t, x, h1, h2, h3, rfl, rfl, h4⟩
    unfold resM
    rw [(check_find hs h1).1]
    simp only [Option.getD_some, Option.isSome_some]
    rw [check_field hs h1 h2 h3]
    simp [h2, h4]
theorem sound_keys {gs : List Graph} (hb : bAll gs 0 gs = []) {k : KeyO} (hk : k ∈ kAll 0 gs) : ∃ (j : Nat) (g : Graph) (t : Def) (ks : List Str), gs[j]? = some g ∧ t ∈ g.doc ∧ k = keyOf j t ks ∧ 1 ≤ ks.length ∧ ks.length ≤ 4 ∧ (∀ n, n ∈ ks → (findField n t.fields).isSome = true ∧ ((findField n t.fields).getD Field.zero).args.length = 0) ∧ ks.Nodup := by
  obtain ⟨j, g, t, ks, h1, h2, h3, h4, h5⟩ := kAll_mem hk
  have hbd := bDefs_nil (bAll_nil hb j g h1) t h2
  unfold bDef at hbd
  rw [if_pos h3, List.append_eq_nil_iff] at hbd
  obtain ⟨i, hi⟩ := keyL_nil hbd.1 ks h4
  obtain ⟨a1, a2⟩ := keyB_false hi
  exact ⟨j, g, t, ks, h1, h2, by rw [h5, Nat.zero_add], a1, keysD_mem h4, a2, keysD_nodup h4⟩
theorem sound_joins {gs : List Graph} (hb : bAll gs 0 gs = []) (hs : Sane gs) {k : Jn} (hk : k ∈ jAll 0 gs) : (k.ext = true → 1 ≤ othN k (jAll 0 gs)) ∧ (k.req ≠ [] → k.ext = false ∧ othN k (jAll 0 gs) = 0) := by
  obtain ⟨j, g, t, x, h1, h2, h3, h4, h5⟩ := jAll_mem.1 hk
  rw [Nat.zero_add] at h5
  have hbd := bDefs_nil (bAll_nil hb j g h1) t h2
  unfold bDef at hbd
  rw [if_pos h3, List.append_eq_nil_iff] at hbd
  have hf := fL_nil hbd.2 x h4
  rw [Nat.zero_add] at hf
  unfold fieldF at hf
  simp only [List.append_eq_nil_iff] at hf
  have c1 := ifM_nil hf.1
  have c2 := ifM_nil hf.2.1
  have c4 := ifM_nil hf.2.2.2
  subst h5
  refine ⟨fun he => ?_, fun hr => ?_⟩
  · have he' : hasD ([101, 120, 116, 101, 114, 110, 97, 108] : Str) x.dirs = true := he
    unfold c1M at c1
    rw [he', Bool.true_and, Bool.or_eq_false_iff] at c1
    have ho : othM j t.name x.name 0 gs = true := by simpa using c1.2
    obtain ⟨j', g', a1, a2, a3⟩ := (othM_iff ..).1 ho
    obtain ⟨t', x', b1, b2, b3, b4, b5, b6⟩ := (resM_iff (hs g' (List.mem_of_getElem? a1))).1 a3
    refine othN_pos (x := jnOf j' t' x') ?_ (jAll_mem.2 ⟨j', g', t', x', a1, b1, b2, b3, by rw [Nat.zero_add]⟩)
    unfold isO jnOf
    simp only [b4, b5, b6]
    simp; omega
  · have hr' : setM x.dirs ([114, 101, 113, 117, 105, 114, 101, 115] : Str) ≠ [] := hr
    have hq : hasD ([114, 101, 113, 117, 105, 114, 101, 115] : Str) x.dirs = true := by
      cases hq : hasD ([114, 101, 113, 117, 105, 114, 101, 115] : Str) x.dirs with
      | true => rfl
      | false => exact absurd (setM_none hq) hr'
    unfold c2M at c2
    rw [hq, Bool.true_and] at c2
    simp only [Bool.or_eq_false_iff] at c2
    have he : hasD ([101, 120, 116, 101, 114, 110, 97, 108] : Str) x.dirs = false := c2.1.1.1
    refine ⟨he, ?_⟩
    unfold c4M at c4
    rw [hq, he, Bool.true_or, Bool.and_true] at c4
    have ho : ¬ othM j t.name x.name 0 gs = true := by simpa using c4
    refine othN_zero fun y hy => ?_
    obtain ⟨j', g', t', x', a1, a2, a3, a4, rfl⟩ := jAll_mem.1 hy
    rw [Nat.zero_add]
    cases hi : isO (jnOf j t x) (jnOf j' t' x') with
    | false => rfl
    | true =>
      exfalso
      unfold isO jnOf at hi
      simp at hi
      exact ho ((othM_iff ..).2 ⟨j', g', a1, by rw [Nat.zero_add]; exact fun e => hi.1.2 (by rw [e]), (resM_iff (hs g' (List.mem_of_getElem? a1))).2 ⟨t', x', a2, a3, a4, hi.1.1.1, hi.1.1.2, hi.2⟩⟩)
theorem rightG_sane {gs : List Graph} (h : rightG gs = true) : Sane gs := by
  intro g hg
  unfold rightG at h
  rw [Bool.and_eq_true] at h
  have h2 : gs.any faultyG = false := by simpa using h.2
  rw [List.any_eq_false] at h2
  have := h2 g hg
  unfold faultyG at this
  simp at this
  exact List.length_eq_zero_iff.1 (by have := this.1; simp [this])

theorem sound25_ok (H : Pr25 P) (gs : List Graph) (hg : GsOk gs) : FnOk P 8 [.t (.lst (gs.map Graph.enc))] ⟨[], 0⟩ { v := .t (.bool true) } := by
  have hl := hg.l
  have h1 := large25_ok H gs (by omega) hg.u
  have h2 := right25_ok H gs (by omega) hg.u
  have h3 := joins_ok H gs hg.j
  have hjb := hg.j.j
  have hkb := hg.j.k
  refine FnOk.run H.i8 H.mixed rfl rfl ?_
  refine fR rfl ?_
  refine Mid.call (h1) rfl rfl rfl rfl ?_
  refine fM rfl ?_
  refine caG rfl rfl (fun hg => ⟨_, rfl, h2, rfl⟩) rfl rfl ?_
  refine fM rfl ?_
  refine Run.cond rfl rfl (fun h => ?_) (fun h => ?_)
  · refine fR rfl ?_
    refine Mid.call (ex32_ok H) rfl rfl rfl rfl ?_
    refine fM rfl ?_
    refine Run.fin rfl (EndOk.go ?_); exact .t rfl
  · have hr : rightG gs = true := by
      rw [Bool.or_eq_false_iff] at h
      simpa using h.2
    have hs := rightG_sane hr
    refine fR rfl ?_
    by_cases hb : bAll gs 0 gs = []
    · rw [hb, if_pos rfl, if_pos rfl] at h3
      refine Mid.call (h3) rfl rfl rfl rfl ?_
      refine fM rfl ?_
      refine lM rfl rfl rfl ?_
      refine fM rfl ?_
      refine Run.condF rfl rfl (by simp) ?_
      refine fR rfl ?_
      have sk := fun k (hk : k ∈ kAll 0 gs) => sound_keys hb hk
      have sj := fun k (hk : k ∈ jAll 0 gs) => sound_joins hb hs hk
      generalize kAll 0 gs = K at hkb sk h3 ⊢
      generalize jAll 0 gs = J at hjb sj h3 ⊢
      refine rList K (fun i (_ : Unit) => { env := [(0, .t (.lst (gs.map Graph.enc))), (3, .t (.lst (K.map KeyO.enc))), (4, .t (.lst (J.map Jn.enc))), (6, .t (.int .i64 i))], s := ⟨[], 0⟩ }) (fun r i _ => True) 0 () rfl trivial rfl rfl rfl ?_ ?_
      · rintro _ _
        refine fR rfl ?_
        refine lM rfl rfl rfl ?_
        refine fM rfl ?_
        refine Run.condF rfl rfl (by simp) ?_
        refine fR rfl ?_
        refine rList J (fun i (_ : Unit) => { env := [(4, .t (.lst (J.map Jn.enc))), (7, .t (.int .i64 i))], s := ⟨[], 0⟩ }) (fun r i _ => True) 0 () rfl trivial rfl rfl rfl ?_ ?_
        · rintro _ _
          refine fR rfl ?_
          refine lM rfl rfl rfl ?_
          refine fM rfl ?_
          refine Run.condF rfl rfl (by simp) ?_
          refine fR rfl ?_
          refine Mid.call (ex32_ok H) rfl rfl rfl rfl ?_
          refine fM rfl ?_
          refine Run.fin rfl (EndOk.go ?_); exact .t rfl
        · rintro i x r _ g1 hi hd _ ih
          obtain ⟨s1, s2⟩ := sj x (List.mem_of_getElem? g1)
          have ho := others35_ok H J (by omega) x
          refine fR rfl ?_
          refine lM rfl rfl rfl ?_
          refine fM rfl ?_
          refine Run.condT rfl rfl (by simp; omega) ?_
          refine fR rfl ?_
          refine Mid.elemMap rfl rfl rfl g1 rfl rfl ?_
          refine fM rfl ?_
          refine elG rfl rfl rfl rfl g1 rfl rfl ?_
          refine fM rfl ?_
          refine caG rfl rfl (fun hg => ⟨_, rfl, ho, rfl⟩) rfl rfl ?_
          refine fM rfl ?_
          refine elG rfl rfl rfl rfl g1 rfl rfl ?_
          refine fM rfl ?_
          refine lMG rfl rfl rfl rfl ?_
          refine fM rfl ?_
          refine elG rfl rfl rfl rfl g1 rfl rfl ?_
          refine fM rfl ?_
          refine elG rfl rfl rfl rfl g1 rfl rfl ?_
          refine fM rfl ?_
          refine caG rfl rfl (fun hg => ⟨_, rfl, ho, rfl⟩) rfl rfl ?_
          refine fM rfl ?_
          have hc : ((x.ext && (((othN x J : Nat) : Int) == 0)) || (decide ((x.req.length : Int) > 0) && (x.ext || decide (((othN x J : Nat) : Int) > 0)))) = false := by
            cases he : x.ext with
            | true =>
              have a1 := s1 he
              have a2 : x.req = [] := by
                cases hq : x.req with
                | nil => rfl
                | cons a l => have := (s2 (by rw [hq]; simp)).1; rw [he] at this; cases this
              rw [a2]; simp; omega
            | false =>
              cases hq : x.req with
              | nil => simp
              | cons a l => have := (s2 (by rw [hq]; simp)).2; rw [this]; simp
          refine Run.condF rfl rfl hc ?_
          refine fR rfl ?_
          refine aL rfl rfl rfl rfl rfl ?_
          refine fM rfl ?_
          exact rWeak 0 rfl (ih () trivial) rfl rfl rfl
      · rintro i x r _ g1 hi hd _ ih
        obtain ⟨j, g, t, ks, a1, a2, a3, a4, a5, a6, a7⟩ := sk x (List.mem_of_getElem? g1)
        have gk := hg.j.g g (List.mem_of_getElem? a1)
        have hk := keyed_ok H gs j g a1 gk t (gk.t t a2) (check_find (hs g (List.mem_of_getElem? a1)) a2).1 ks a4 a5 a6 a7
        rw [← a3] at hk
        refine fR rfl ?_
        refine lM rfl rfl rfl ?_
        refine fM rfl ?_
        refine Run.condT rfl rfl (by simp; omega) ?_
        refine fR rfl ?_
        refine Mid.elemMap rfl rfl rfl g1 rfl rfl ?_
        refine fM rfl ?_
        refine Mid.call (hk) rfl rfl rfl rfl ?_
        refine fM rfl ?_
        refine Run.condF rfl rfl rfl ?_
        refine fR rfl ?_
        refine aL rfl rfl rfl rfl rfl ?_
        refine fM rfl ?_
        exact rWeak 0 rfl (ih () trivial) rfl rfl rfl
    · rw [if_neg hb, if_neg hb] at h3
      have hpos : 0 < (bAll gs 0 gs).length := List.length_pos_iff.2 hb
      refine Mid.call (h3) rfl rfl rfl rfl ?_
      refine fM rfl ?_
      refine lM rfl rfl rfl ?_
      refine fM rfl ?_
      refine Run.condT rfl rfl (by simp; omega) ?_
      refine fR rfl ?_
      refine lM rfl rfl rfl ?_
      refine fM rfl ?_
      refine lMG rfl rfl rfl rfl ?_
      refine fM rfl ?_
      refine caG rfl rfl (fun hg => ⟨_, rfl, ex32_ok H, rfl⟩) rfl rfl ?_
      refine fM rfl ?_
      refine Run.fin rfl (EndOk.go ?_); exact .t (by simp)
end Go.GB.C23


/-
  D11R: shapes of chapter 11's arguments.
-/
namespace Go.GB.C11
open Go.GB

theorem spV_ok {P : Program} {vt : TypeId} (hb : P.bytesOf vt = 80) (hs : shOf P (spV vt) 6 vt = some valSh) :
    ∀ e i n xs, spV vt e = some i → xs.length * P.bytesOf e ≤ reachBytes → xs.length ≤ maxLen → (∀ c ∈ xs, WT P n e c) → YA i (.lst xs) := by
  have hv := val_wt hb hs
  intro e i k xs he hr hl hc
  have := reach_le
  unfold spV at he
  split at he
  · rename_i e1; subst e1
    simp only [Option.some.injEq] at he; subst he
    obtain ⟨l, rfl, h3⟩ := choose_map (f := Val.enc) (Q := Val.Ok) xs fun c hcm => hv k c (hc c hcm)
    rw [hb] at hr
    exact ⟨l, rfl, by unfold B47; simp at hr; omega, h3⟩
  · cases he
end Go.GB.C11


/-
  F25J: shapes of graphs and supergraphs, as laws are handed them.
-/
namespace Go.GB.C23
open Go.GB Go.GB.C11
set_option linter.unusedSimpArgs false
set_option linter.unusedVariables false

def graphSh : List Sh := [.str, .lst 144 defSh]
theorem graph_sh {c : List T} (h : Sh.oks YA graphSh c) : ∃ g : Graph, c = g.enc ∧ (DocOk g.doc ∧ g.name.length ≤ 140737488355328) := by
  have := reach_le
  obtain ⟨x, c, rfl, ⟨n, rfl, hn⟩, g1⟩ := Sh.oks_cons h
  obtain ⟨l, c', rfl, h1, h2⟩ := doc_sh (r := []) g1
  obtain rfl := Sh.oks_nil h2
  exact ⟨⟨n, l⟩, rfl, h1, by show n.length ≤ _; omega⟩
theorem graphs_sh0 {c : List T} (h : Sh.oks YA [.lst 40 graphSh] c) : ∃ l : List Graph, c = [.lst (l.map Graph.enc)] ∧ l.length ≤ 140737488355328 ∧ ∀ g, g ∈ l → DocOk g.doc ∧ g.name.length ≤ 140737488355328 := by
  have := reach_le
  obtain ⟨x, c, rfl, hx, g⟩ := Sh.oks_cons h
  obtain rfl := Sh.oks_nil g
  obtain ⟨l, rfl, h1, _, h2⟩ := list_of (fun c hc => graph_sh hc) hx
  exact ⟨l, rfl, by omega, h2⟩
end Go.GB.C23

