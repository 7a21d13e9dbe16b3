/-
  YtkhekeacdnhkpaaP5: lemmas of this proof (part 5). No conditions.
-/
import Derived.Test.YtkhekeacdnhkpaaP4
import Derived.KernelRfl
import Derived.Handed

/-
  E13C: chapter 13's functions: composite types, places, violations.
-/
namespace Go.GB.C11
open Go.GB
set_option linter.unusedSimpArgs false
set_option linter.unusedVariables false
set_option maxRecDepth 100000
set_option maxHeartbeats 2000000
variable {P : Program}

def kindF (ds : List Def) (n : Str) : Int := ((findDef n ds).getD Def.zero).kind
def cmpK (k : Int) : Bool := k == 1 || k == 2 || k == 3
def compF (ds : List Def) (n : Str) : Bool := !scalF n && cmpK (kindF ds n)
theorem kind_ok (H : Pr13 P) (ds : List Def) (hD : DocOk ds) (n : Str) : FnOk P 135 [docV ds, .t (.str n)] ⟨[], 0⟩ { v := .t (.int .i64 (kindF ds n)) } := by
  refine FnOk.run H.i135 H.mixed rfl rfl ?_
  refine fR rfl ?_
  refine Mid.call (find_ok H.toPr ds hD.l n) rfl rfl rfl rfl ?_
  refine fM rfl ?_
  refine Run.fin rfl (EndOk.go ?_); exact .t rfl
theorem composite_ok (H : Pr13 P) (ds : List Def) (hD : DocOk ds) (n : Str) : FnOk P 80 [docV ds, .t (.str n)] ⟨[], 0⟩ { v := .t (.bool (compF ds n)) } := by
  refine FnOk.run H.i80 H.mixed rfl rfl ?_
  refine fR rfl ?_
  refine Mid.call (kind_ok H ds hD n) rfl rfl rfl rfl ?_
  refine fM rfl ?_
  refine Mid.call (scalar_ok H.toPr n) rfl rfl rfl rfl ?_
  refine fM rfl ?_
  refine Run.fin rfl (EndOk.go ?_); exact .t rfl
def apF (ds : List Def) (a b : Str) : Bool := compF ds a && !ovF ds a b
theorem apart_ok (H : Pr13 P) (ds : List Def) (hD : DocOk ds) (q : Query) (out : List Fault) (a b : Str) : FnOk P 133 [.ptr 0 0, .t (.str a), .t (.str b)] ⟨[(0, .cells [.t (.lst (ds.map Def.enc)), .t (.lst (q.ops.map Op.enc)), .t (.lst (q.frags.map Frag.enc)), .own 1 2 (out.map Fault.enc)]), (1, .arr out.length)], 2⟩ { v := .t (.bool (apF ds a b)), rd := true } := by
  refine FnOk.run H.i133 H.mixed rfl rfl ?_
  refine fR rfl ?_
  refine Mid.call (composite_ok H ds hD a) rfl rfl rfl rfl ?_
  refine fM rfl ?_
  refine caG rfl rfl (fun hg => ⟨_, rfl, overlap_ok H.toPr ds hD a b, rfl⟩) rfl rfl ?_
  refine fM rfl ?_
  refine Run.fin rfl (EndOk.sameX rfl rfl rfl (by first | exact rfl | exact nSto_bd | exact tSto_bd) (.t ((by rfl))))
theorem add13T_ok (H : Pr13 P) (ds : List Def) (q : Query) (out : List Fault) (hl : out.length ≤ 4398046511104) (e : Int) (a : Str) : FnOk P 79 [.ptr 0 0, .t (.bool true), .t (.int .i64 e), .t (.str a)] ⟨[(0, .cells [.t (.lst (ds.map Def.enc)), .t (.lst (q.ops.map Op.enc)), .t (.lst (q.frags.map Frag.enc)), .own 1 2 (out.map Fault.enc)]), (1, .arr out.length)], 2⟩ { v := .tup [], ob := [(0, .cells [.t (.lst (ds.map Def.enc)), .t (.lst (q.ops.map Op.enc)), .t (.lst (q.frags.map Frag.enc)), .own 1 2 ((out ++ [(⟨e, a⟩ : Fault)]).map Fault.enc)]), (1, .arr (out ++ [(⟨e, a⟩ : Fault)]).length)], rd := true } := by
  refine FnOk.run H.i79 H.mixed rfl rfl ?_
  refine fR rfl ?_
  refine Run.condT rfl rfl rfl ?_
  refine fR rfl ?_
  refine apM Fault.enc out [(⟨e, a⟩ : Fault)] rfl rfl rfl rfl rfl ?_ (h1 := by first | omega | (simp; omega) | (simp; done)) (h2 := by first | omega | (simp; omega) | (simp; done))
  refine fM rfl ?_
  refine Run.fin rfl (EndOk.chg rfl rfl ?_ ?_)
  · exact .le (.same rfl)
  · exact (by repeat' (first | exact trivial | exact LeX.t | exact LeX.top | exact LeX.nilOwn (Nat.le_of_ble_eq_true rfl) (Nat.le_of_ble_eq_true rfl) | exact LeX.ownT | exact LeX.nilT | exact LeX.same rfl | exact LeX.tEq (by simp) | exact LeX.ownEq (by simp) (Nat.le_of_ble_eq_true rfl) | exact LeX.tEq (by congr 1 <;> omega) | exact Or.inr ⟨Nat.le_of_ble_eq_true rfl, Nat.le_of_ble_eq_true rfl, rfl⟩ | refine Or.inl ⟨Nat.le_of_ble_eq_true rfl, _, rfl, ?_⟩ | refine LeO.cells ?_ | exact LeO.arr rfl | exact LeO.arr (by simp) | exact LeO.mE (by first | rfl | simp) (by first | exact Or.inl rfl | exact Or.inr rfl) | exact LeO.cE (by first | rfl | simp) | exact LeXs.cE (by first | rfl | simp) | refine LeO.map (by first | rfl | simp) ?_ (by first | exact Or.inl rfl | exact Or.inr rfl) | exact LeO.iter (by first | rfl | simp) (Nat.le_of_ble_eq_true rfl) | refine LeXs.cons ?_ ?_ | exact LeXs.nil | refine And.intro ?_ ?_))
theorem add13F_ok (H : Pr13 P) (ds : List Def) (q : Query) (out : List Fault) (e : Int) (a : Str) : FnOk P 79 [.ptr 0 0, .t (.bool false), .t (.int .i64 e), .t (.str a)] ⟨[(0, .cells [.t (.lst (ds.map Def.enc)), .t (.lst (q.ops.map Op.enc)), .t (.lst (q.frags.map Frag.enc)), .own 1 2 (out.map Fault.enc)]), (1, .arr out.length)], 2⟩ { v := .tup [], ob := [(0, .cells [.t (.lst (ds.map Def.enc)), .t (.lst (q.ops.map Op.enc)), .t (.lst (q.frags.map Frag.enc)), .own 1 2 (out.map Fault.enc)]), (1, .arr out.length)], rd := true } := by
  refine FnOk.run H.i79 H.mixed rfl rfl ?_
  refine fR rfl ?_
  refine Run.condF rfl rfl rfl ?_
  skip
  refine Run.fin rfl (EndOk.chg rfl rfl ?_ ?_)
  · exact .le (.same rfl)
  · exact (by repeat' (first | exact trivial | exact LeX.t | exact LeX.top | exact LeX.nilOwn (Nat.le_of_ble_eq_true rfl) (Nat.le_of_ble_eq_true rfl) | exact LeX.ownT | exact LeX.nilT | exact LeX.same rfl | exact LeX.tEq (by simp) | exact LeX.ownEq (by simp) (Nat.le_of_ble_eq_true rfl) | exact LeX.tEq (by congr 1 <;> omega) | exact Or.inr ⟨Nat.le_of_ble_eq_true rfl, Nat.le_of_ble_eq_true rfl, rfl⟩ | refine Or.inl ⟨Nat.le_of_ble_eq_true rfl, _, rfl, ?_⟩ | refine LeO.cells ?_ | exact LeO.arr rfl | exact LeO.arr (by simp) | exact LeO.mE (by first | rfl | simp) (by first | exact Or.inl rfl | exact Or.inr rfl) | exact LeO.cE (by first | rfl | simp) | exact LeXs.cE (by first | rfl | simp) | refine LeO.map (by first | rfl | simp) ?_ (by first | exact Or.inl rfl | exact Or.inr rfl) | exact LeO.iter (by first | rfl | simp) (Nat.le_of_ble_eq_true rfl) | refine LeXs.cons ?_ ?_ | exact LeXs.nil | refine And.intro ?_ ?_))
def ifL (c : Bool) (x : Fault) : List Fault := if c then [x] else []
theorem add13_ok (H : Pr13 P) (ds : List Def) (q : Query) (out : List Fault) (c : Bool) (e : Int) (a : Str) (hl : out.length ≤ 4398046511104) : FnOk P 79 [.ptr 0 0, .t (.bool c), .t (.int .i64 e), .t (.str a)] ⟨[(0, .cells [.t (.lst (ds.map Def.enc)), .t (.lst (q.ops.map Op.enc)), .t (.lst (q.frags.map Frag.enc)), .own 1 2 (out.map Fault.enc)]), (1, .arr out.length)], 2⟩ { v := .tup [], ob := [(0, .cells [.t (.lst (ds.map Def.enc)), .t (.lst (q.ops.map Op.enc)), .t (.lst (q.frags.map Frag.enc)), .own 1 2 ((out ++ ifL c ⟨e, a⟩).map Fault.enc)]), (1, .arr (out ++ ifL c ⟨e, a⟩).length)], rd := true } := by
  cases c with
  | true => exact add13T_ok H ds q out hl e a
  | false => rw [show out ++ ifL false ⟨e, a⟩ = out from List.append_nil _]; exact add13F_ok H ds q out e a
def keyF (s : Sel) : Str := if s.ali = [] then s.name else s.ali
def rootF (k : Int) : Str := if k = 1 then [81, 117, 101, 114, 121] else if k = 2 then [77, 117, 116, 97, 116, 105, 111, 110] else if k = 3 then [83, 117, 98, 115, 99, 114, 105, 112, 116, 105, 111, 110] else []
theorem root_step (f : FuncId) (hi : fnInfo P f = some (n78, c78.bare, r78)) (hm : P.follows .mixedOrders = true) (k : Int) : FnOk P f [.t (.int .i64 k)] ⟨[], 0⟩ { v := .t (.str (rootF k)) } := by
  refine FnOk.run hi hm rfl rfl ?_
  refine fR rfl ?_
  refine Run.cond rfl rfl (fun h1 => ?_) (fun h1 => ?_)
  · have h' : k = 1 := by simpa using h1
    refine fR rfl ?_
    refine Run.fin rfl (EndOk.go ?_); exact .t (by unfold rootF; rw [if_pos h'])
  · have h1' : ¬ k = 1 := by simpa using h1
    refine fR rfl ?_
    refine Run.cond rfl rfl (fun h2 => ?_) (fun h2 => ?_)
    · have h' : k = 2 := by simpa using h2
      refine fR rfl ?_
      refine Run.fin rfl (EndOk.go ?_); exact .t (by unfold rootF; rw [if_neg h1', if_pos h'])
    · have h2' : ¬ k = 2 := by simpa using h2
      refine fR rfl ?_
      refine Run.cond rfl rfl (fun h3 => ?_) (fun h3 => ?_)
      · have h' : k = 3 := by simpa using h3
        refine fR rfl ?_
        refine Run.fin rfl (EndOk.go ?_); exact .t (by unfold rootF; rw [if_neg h1', if_neg h2', if_pos h'])
      · have h' : ¬ k = 3 := by simpa using h3
        refine fR rfl ?_
        refine Run.fin rfl (EndOk.go ?_); exact .t (by unfold rootF; rw [if_neg h1', if_neg h2', if_neg h'])
theorem root_ok (H : Pr13 P) (k : Int) : FnOk P 78 [.t (.int .i64 k)] ⟨[], 0⟩ { v := .t (.str (rootF k)) } := root_step 78 H.i78 H.mixed k
def usedF (q : Query) (n : Str) : Bool := q.ops.any fun o => decide (n ∈ (wF q o.sels).1)
end Go.GB.C11


/-
  E13D: chapter 13's functions: violations of selections.
-/
namespace Go.GB
mutual
def Sel.w : Sel → Nat
  | .mk _ a n _ _ _ ss => 2 + a.length + n.length + Sel.ws ss
def Sel.ws : List Sel → Nat
  | [] => 0
  | x :: r => x.w + Sel.ws r
end
theorem Sel.w_eq (s : Sel) : s.w = 2 + s.ali.length + s.name.length + Sel.ws s.sels := by cases s; simp only [Sel.w, Sel.ali, Sel.name, Sel.sels]
theorem Sel.ws_mem : ∀ {l : List Sel} {x : Sel}, x ∈ l → x.w ≤ Sel.ws l
  | [], x, h => by cases h
  | y :: r, x, h => by
    simp only [Sel.ws]
    rcases List.mem_cons.1 h with rfl | h
    · omega
    · have := Sel.ws_mem h; omega
end Go.GB
namespace Go.GB.C11
open Go.GB
set_option linter.unusedSimpArgs false
set_option linter.unusedVariables false
set_option maxRecDepth 100000
set_option maxHeartbeats 4000000
variable {P : Program}

def innF (ds : List Def) (on n : Str) : Str :=
  if ((findDef on ds).isSome && compF ds on) = true then (if (findField n ((findDef on ds).getD Def.zero).fields).isSome = true then ((findField n ((findDef on ds).getD Def.zero).fields).getD Field.zero).ty.name else []) else []
def selF (ds : List Def) (q : Query) : List Sel → Str → Str → List Fault
  | [], _, _ => []
  | s :: r, on, at_ =>
    (if s.kind = 2 then ifL (!(findFrag s.name q.frags).isSome) ⟨24, at_⟩ ++ ifL (((findFrag s.name q.frags).isSome && compF ds ((findFrag s.name q.frags).getD Frag.zero).on) && apF ds on ((findFrag s.name q.frags).getD Frag.zero).on) ⟨25, at_⟩
     else if s.kind = 3 then (if s.on = [] then [] else ifL (!compF ds s.on) ⟨24, at_⟩ ++ ifL (compF ds s.on && apF ds on s.on) ⟨25, at_⟩) ++ selF ds q s.sels (if s.on = [] then on else s.on) at_
     else selF ds q s.sels (innF ds on s.name) (at_ ++ [47] ++ keyF s)) ++ selF ds q r on at_
termination_by l => SizeOf.sizeOf l
decreasing_by
  all_goals simp_wf
  all_goals (have := Sel.size_sels s; omega)
theorem selF_nil (ds : List Def) (q : Query) (on at_ : Str) : selF ds q [] on at_ = [] := by rw [selF]
theorem selF_spread {ds : List Def} {q : Query} {s : Sel} {r : List Sel} {on at_ : Str} (h : s.kind = 2) : selF ds q (s :: r) on at_ = (ifL (!(findFrag s.name q.frags).isSome) ⟨24, at_⟩ ++ ifL (((findFrag s.name q.frags).isSome && compF ds ((findFrag s.name q.frags).getD Frag.zero).on) && apF ds on ((findFrag s.name q.frags).getD Frag.zero).on) ⟨25, at_⟩) ++ selF ds q r on at_ := by
  rw [selF, if_pos h]
theorem selF_inline {ds : List Def} {q : Query} {s : Sel} {r : List Sel} {on at_ : Str} (h : s.kind = 3) : selF ds q (s :: r) on at_ = ((if s.on = [] then [] else ifL (!compF ds s.on) ⟨24, at_⟩ ++ ifL (compF ds s.on && apF ds on s.on) ⟨25, at_⟩) ++ selF ds q s.sels (if s.on = [] then on else s.on) at_) ++ selF ds q r on at_ := by
  rw [selF, if_neg (by omega), if_pos h]
theorem selF_field {ds : List Def} {q : Query} {s : Sel} {r : List Sel} {on at_ : Str} (h : ¬ s.kind = 2) (h' : ¬ s.kind = 3) : selF ds q (s :: r) on at_ = selF ds q s.sels (innF ds on s.name) (at_ ++ [47] ++ keyF s) ++ selF ds q r on at_ := by
  rw [selF, if_neg h, if_neg h']
theorem ifL_len (c : Bool) (x : Fault) : (ifL c x).length ≤ 1 := by cases c <;> simp [ifL]
theorem keyF_len (s : Sel) : (keyF s).length ≤ s.ali.length + s.name.length := by unfold keyF; split <;> omega
theorem selF_len (ds : List Def) (q : Query) : ∀ (l : List Sel) (on at_ : Str), (selF ds q l on at_).length ≤ Sel.ws l
  | [], on, at_ => by rw [selF_nil]; exact Nat.zero_le _
  | s :: r, on, at_ => by
    have hr := selF_len ds q r on at_
    have hw := Sel.w_eq s
    have hsz := Sel.size_sels s
    simp only [Sel.ws]
    by_cases h2 : s.kind = 2
    · rw [selF_spread h2]
      have a1 := ifL_len (!(findFrag s.name q.frags).isSome) ⟨24, at_⟩
      have a2 := ifL_len (((findFrag s.name q.frags).isSome && compF ds ((findFrag s.name q.frags).getD Frag.zero).on) && apF ds on ((findFrag s.name q.frags).getD Frag.zero).on) ⟨25, at_⟩
      simp only [List.length_append]; omega
    · by_cases h3 : s.kind = 3
      · rw [selF_inline h3]
        have a1 := ifL_len (!compF ds s.on) ⟨24, at_⟩
        have a2 := ifL_len (compF ds s.on && apF ds on s.on) ⟨25, at_⟩
        have a3 := selF_len ds q s.sels (if s.on = [] then on else s.on) at_
        simp only [List.length_append]
        split <;> simp only [List.length_append, List.length_nil] <;> split at a3 <;> simp_all <;> omega
      · rw [selF_field h2 h3]
        have a3 := selF_len ds q s.sels (innF ds on s.name) (at_ ++ [47] ++ keyF s)
        simp only [List.length_append]; omega
termination_by l => SizeOf.sizeOf l
decreasing_by
  all_goals simp_wf
  all_goals (have := Sel.size_sels s; omega)
def SelC (P : Program) (ds : List Def) (q : Query) (out : List Fault) (l : List Sel) (on at_ : Str) : Prop :=
  FnOk P 77 [.ptr 0 0, .t (.lst (l.map Sel.enc)), .t (.str on), .t (.str at_)] ⟨[(0, .cells [.t (.lst (ds.map Def.enc)), .t (.lst (q.ops.map Op.enc)), .t (.lst (q.frags.map Frag.enc)), .own 1 2 (List.map Fault.enc (out))]), (1, .arr (out).length)], 2⟩ { v := .tup [], ob := [(0, .cells [.t (.lst (ds.map Def.enc)), .t (.lst (q.ops.map Op.enc)), .t (.lst (q.frags.map Frag.enc)), .own 1 2 (List.map Fault.enc (out ++ selF ds q l on at_))]), (1, .arr (out ++ selF ds q l on at_).length)], rd := true }
theorem sels_step (H : Pr13 P) (ds : List Def) (hD : DocOk ds) (q : Query) (hq : q.Ok) (l : List Sel) (on at_ : Str) (hl : SelsOk l) (out : List Fault) (ho : out.length + Sel.ws l ≤ 4398046511104) (ha : at_.length + Sel.ws l ≤ 4398046511104)
    (ih : ∀ l' on' at' out', SizeOf.sizeOf l' < SizeOf.sizeOf l → SelsOk l' → out'.length + Sel.ws l' ≤ 4398046511104 → at'.length + Sel.ws l' ≤ 4398046511104 → SelC P ds q out' l' on' at') : SelC P ds q out l on at_ := by
  have hfl := hq.fl
  have hll := hl.1
  unfold SelC
  generalize hT : out ++ selF ds q l on at_ = tot
  refine FnOk.run H.i77 H.mixed rfl rfl ?_
  refine fR rfl ?_
  refine lM rfl rfl rfl ?_
  refine fM rfl ?_
  refine rList l (fun i (B : List Fault) => { env := [(0, .ptr 0 0), (2, .t (.str on)), (3, .t (.str at_)), (20, .t (.lst (l.map Sel.enc))), (21, .t (.int .i64 l.length)), (22, .t (.int .i64 i))], s := ⟨[(0, .cells [.t (.lst (ds.map Def.enc)), .t (.lst (q.ops.map Op.enc)), .t (.lst (q.frags.map Frag.enc)), .own 1 2 (List.map Fault.enc (B))]), (1, .arr (B).length)], 2⟩ }) (fun r i B => B.length + Sel.ws r ≤ 4398046511104 ∧ B ++ selF ds q r on at_ = tot) 2 out rfl ⟨ho, hT⟩ rfl rfl rfl ?_ ?_
  · rintro B ⟨_, hB⟩
    obtain rfl : B = tot := by rw [← hB, selF_nil]; simp
    refine fR rfl ?_
    refine Run.condF rfl rfl (by simp) ?_
    skip
    refine Run.fin rfl (EndOk.chg rfl rfl ?_ ?_)
    · exact .le (.same rfl)
    · exact (by repeat' (first | exact trivial | exact LeX.t | exact LeX.top | exact LeX.nilOwn (Nat.le_of_ble_eq_true rfl) (Nat.le_of_ble_eq_true rfl) | exact LeX.ownT | exact LeX.nilT | exact LeX.same rfl | exact LeX.tEq (by simp) | exact LeX.ownEq (by simp) (Nat.le_of_ble_eq_true rfl) | exact LeX.tEq (by congr 1 <;> omega) | exact Or.inr ⟨Nat.le_of_ble_eq_true rfl, Nat.le_of_ble_eq_true rfl, rfl⟩ | refine Or.inl ⟨Nat.le_of_ble_eq_true rfl, _, rfl, ?_⟩ | refine LeO.cells ?_ | exact LeO.arr rfl | exact LeO.arr (by simp) | exact LeO.mE (by first | rfl | simp) (by first | exact Or.inl rfl | exact Or.inr rfl) | exact LeO.cE (by first | rfl | simp) | exact LeXs.cE (by first | rfl | simp) | refine LeO.map (by first | rfl | simp) ?_ (by first | exact Or.inl rfl | exact Or.inr rfl) | exact LeO.iter (by first | rfl | simp) (Nat.le_of_ble_eq_true rfl) | refine LeXs.cons ?_ ?_ | exact LeXs.nil | refine And.intro ?_ ?_))
  · rintro i x r B h1 hi hd ⟨hlB, hB⟩ ihl
    have hxm : x ∈ l := List.mem_of_getElem? h1
    have hx := hl.2 x hxm
    have hw := Sel.w_eq x
    have hwm := Sel.ws_mem hxm
    have hkl := keyF_len x
    have hsz : SizeOf.sizeOf x.sels < SizeOf.sizeOf l := Nat.lt_trans (Sel.size_sels x) (List.sizeOf_lt_of_mem hxm)
    simp only [Sel.ws] at hlB
    have hal := hx.al
    have hnl := hx.nm
    refine fR rfl ?_
    refine Run.condT rfl rfl (by simp; omega) ?_
    refine fR rfl ?_
    refine Mid.elemMapC (Sel.enc_eq x) rfl rfl rfl h1 rfl rfl ?_
    refine fM rfl ?_
    refine Run.cond rfl rfl (fun hk => ?_) (fun hk => ?_)
    · have hk' : x.kind = 2 := by simpa using hk
      rw [selF_spread hk'] at hB
      refine fR rfl ?_
      refine Mid.call (qfind_ok H q hq x.name) rfl rfl rfl rfl ?_
      refine fM rfl ?_
      have hfo := fragOk hq x.name
      generalize (findFrag x.name q.frags).getD Frag.zero = f at hB hfo
      generalize (findFrag x.name q.frags).isSome = ok at hB
      have a1 := ifL_len (!ok) ⟨24, at_⟩
      have a2 := ifL_len ((ok && compF ds f.on) && apF ds on f.on) ⟨25, at_⟩
      refine Mid.callR [0, 1] (add13_ok H ds q B (!ok) 24 at_ (by omega)) rfl rfl rfl rfl (by simp [stoBd]; simp [AObj.bd, V.bds, V.bd]) (by repeat' (first | exact trivial | exact rfl | refine And.intro ?_ ?_ | exact (congrArg some (AObj.ren_mE _ _ _ _ _ _)).symm | exact (congrArg some (AObj.ren_cE _ _ _)).symm)) rfl rfl (ob' := [(0, .cells [.t (.lst (ds.map Def.enc)), .t (.lst (q.ops.map Op.enc)), .t (.lst (q.frags.map Frag.enc)), .own 1 2 (List.map Fault.enc (B ++ ifL (!ok) ⟨24, at_⟩))]), (1, .arr (B ++ ifL (!ok) ⟨24, at_⟩).length)]) (rfl) rfl rfl ?_
      refine fM rfl ?_
      generalize ifL (!ok) ⟨24, at_⟩ = N1 at hB a1
      refine caG rfl rfl (fun hg => ⟨_, rfl, composite_ok H ds hD f.on, rfl⟩) rfl rfl ?_
      refine fM rfl ?_
      refine Mid.callRG [0, 1] rfl rfl (fun hg => ⟨_, apart_ok H ds hD q (B ++ N1) on f.on, rfl, rfl⟩) rfl (by simp [stoBd]; simp [AObj.bd, V.bds, V.bd]) (by repeat' (first | exact trivial | exact rfl | refine And.intro ?_ ?_ | exact (congrArg some (AObj.ren_mE _ _ _ _ _ _)).symm | exact (congrArg some (AObj.ren_cE _ _ _)).symm)) rfl ?_
      refine fM rfl ?_
      refine Mid.callR [0, 1] (add13_ok H ds q (B ++ N1) ((ok && compF ds f.on) && apF ds on f.on) 25 at_ (by simp; omega)) rfl rfl rfl rfl (by simp [stoBd]; simp [AObj.bd, V.bds, V.bd]) (by repeat' (first | exact trivial | exact rfl | refine And.intro ?_ ?_ | exact (congrArg some (AObj.ren_mE _ _ _ _ _ _)).symm | exact (congrArg some (AObj.ren_cE _ _ _)).symm)) rfl rfl (ob' := [(0, .cells [.t (.lst (ds.map Def.enc)), .t (.lst (q.ops.map Op.enc)), .t (.lst (q.frags.map Frag.enc)), .own 1 2 (List.map Fault.enc (B ++ N1 ++ ifL ((ok && compF ds f.on) && apF ds on f.on) ⟨25, at_⟩))]), (1, .arr (B ++ N1 ++ ifL ((ok && compF ds f.on) && apF ds on f.on) ⟨25, at_⟩).length)]) (rfl) rfl rfl ?_
      refine fM rfl ?_
      refine aL rfl rfl rfl rfl rfl ?_
      refine fM rfl ?_
      generalize ifL ((ok && compF ds f.on) && apF ds on f.on) ⟨25, at_⟩ = N2 at hB a2
      exact rWeak 2 rfl (ihl (B ++ N1 ++ N2) ⟨by simp; omega, by rw [← hB]; simp⟩) rfl rfl rfl
    · have hk' : ¬ x.kind = 2 := by simpa using hk
      refine fR rfl ?_
      refine Run.cond rfl rfl (fun h3 => ?_) (fun h3 => ?_)
      · have h3' : x.kind = 3 := by simpa using h3
        rw [selF_inline h3'] at hB
        refine fR rfl ?_
        refine Run.cond rfl rfl (fun ho => ?_) (fun ho => ?_)
        · have ho' : ¬ x.on = [] := by simpa using ho
          rw [if_neg ho', if_neg ho'] at hB
          have a1 := ifL_len (!compF ds x.on) ⟨24, at_⟩
          have a2 := ifL_len (compF ds x.on && apF ds on x.on) ⟨25, at_⟩
          refine fR rfl ?_
          refine Mid.call (composite_ok H ds hD x.on) rfl rfl rfl rfl ?_
          refine fM rfl ?_
          refine Mid.callR [0, 1] (add13_ok H ds q B (!compF ds x.on) 24 at_ (by omega)) rfl rfl rfl rfl (by simp [stoBd]; simp [AObj.bd, V.bds, V.bd]) (by repeat' (first | exact trivial | exact rfl | refine And.intro ?_ ?_ | exact (congrArg some (AObj.ren_mE _ _ _ _ _ _)).symm | exact (congrArg some (AObj.ren_cE _ _ _)).symm)) rfl rfl (ob' := [(0, .cells [.t (.lst (ds.map Def.enc)), .t (.lst (q.ops.map Op.enc)), .t (.lst (q.frags.map Frag.enc)), .own 1 2 (List.map Fault.enc (B ++ ifL (!compF ds x.on) ⟨24, at_⟩))]), (1, .arr (B ++ ifL (!compF ds x.on) ⟨24, at_⟩).length)]) (rfl) rfl rfl ?_
          refine fM rfl ?_
          generalize ifL (!compF ds x.on) ⟨24, at_⟩ = N1 at hB a1
          refine Mid.callRG [0, 1] rfl rfl (fun hg => ⟨_, apart_ok H ds hD q (B ++ N1) on x.on, rfl, rfl⟩) rfl (by simp [stoBd]; simp [AObj.bd, V.bds, V.bd]) (by repeat' (first | exact trivial | exact rfl | refine And.intro ?_ ?_ | exact (congrArg some (AObj.ren_mE _ _ _ _ _ _)).symm | exact (congrArg some (AObj.ren_cE _ _ _)).symm)) rfl ?_
          refine fM rfl ?_
          refine Mid.callR [0, 1] (add13_ok H ds q (B ++ N1) (compF ds x.on && apF ds on x.on) 25 at_ (by simp; omega)) rfl rfl rfl rfl (by simp [stoBd]; simp [AObj.bd, V.bds, V.bd]) (by repeat' (first | exact trivial | exact rfl | refine And.intro ?_ ?_ | exact (congrArg some (AObj.ren_mE _ _ _ _ _ _)).symm | exact (congrArg some (AObj.ren_cE _ _ _)).symm)) rfl rfl (ob' := [(0, .cells [.t (.lst (ds.map Def.enc)), .t (.lst (q.ops.map Op.enc)), .t (.lst (q.frags.map Frag.enc)), .own 1 2 (List.map Fault.enc (B ++ N1 ++ ifL (compF ds x.on && apF ds on x.on) ⟨25, at_⟩))]), (1, .arr (B ++ N1 ++ ifL (compF ds x.on && apF ds on x.on) ⟨25, at_⟩).length)]) (rfl) rfl rfl ?_
          refine fM rfl ?_
          generalize ifL (compF ds x.on && apF ds on x.on) ⟨25, at_⟩ = N2 at hB a2
          have hcall := ih x.sels x.on at_ (B ++ N1 ++ N2) hsz (SelsOk.sub hx) (by simp; omega) (by omega)
          unfold SelC at hcall
          have a3 := selF_len ds q x.sels x.on at_
          generalize selF ds q x.sels x.on at_ = N3 at hB a3 hcall
          refine Mid.callR [0, 1] (hcall) rfl rfl rfl rfl (by simp [stoBd]; simp [AObj.bd, V.bds, V.bd]) (by repeat' (first | exact trivial | exact rfl | refine And.intro ?_ ?_ | exact (congrArg some (AObj.ren_mE _ _ _ _ _ _)).symm | exact (congrArg some (AObj.ren_cE _ _ _)).symm)) rfl rfl (ob' := [(0, .cells [.t (.lst (ds.map Def.enc)), .t (.lst (q.ops.map Op.enc)), .t (.lst (q.frags.map Frag.enc)), .own 1 2 (List.map Fault.enc (B ++ N1 ++ N2 ++ N3))]), (1, .arr (B ++ N1 ++ N2 ++ N3).length)]) (rfl) rfl rfl ?_
          refine fM rfl ?_
          refine aL rfl rfl rfl rfl rfl ?_
          refine fM rfl ?_
          exact rWeak 2 rfl (ihl (B ++ N1 ++ N2 ++ N3) ⟨by simp; omega, by rw [← hB]; simp⟩) rfl rfl rfl
        · have ho' : x.on = [] := by simpa using ho
          rw [if_pos ho', if_pos ho'] at hB
          refine fR rfl ?_
          have hcall := ih x.sels on at_ B hsz (SelsOk.sub hx) (by omega) (by omega)
          unfold SelC at hcall
          have a3 := selF_len ds q x.sels on at_
          generalize selF ds q x.sels on at_ = N3 at hB a3 hcall
          refine Mid.callR [0, 1] (hcall) rfl rfl rfl rfl (by simp [stoBd]; simp [AObj.bd, V.bds, V.bd]) (by repeat' (first | exact trivial | exact rfl | refine And.intro ?_ ?_ | exact (congrArg some (AObj.ren_mE _ _ _ _ _ _)).symm | exact (congrArg some (AObj.ren_cE _ _ _)).symm)) rfl rfl (ob' := [(0, .cells [.t (.lst (ds.map Def.enc)), .t (.lst (q.ops.map Op.enc)), .t (.lst (q.frags.map Frag.enc)), .own 1 2 (List.map Fault.enc (B ++ N3))]), (1, .arr (B ++ N3).length)]) (rfl) rfl rfl ?_
          refine fM rfl ?_
          refine aL rfl rfl rfl rfl rfl ?_
          refine fM rfl ?_
          exact rWeak 2 rfl (ihl (B ++ N3) ⟨by simp; omega, by rw [← hB]; simp⟩) rfl rfl rfl
      · have h3' : ¬ x.kind = 3 := by simpa using h3
        rw [selF_field hk' h3'] at hB
        have hF := docFind hD on
        refine fR rfl ?_
        refine Run.cond rfl rfl (fun ha => ?_) (fun ha => ?_)
        · have ha' : x.ali = [] := by simpa using ha
          have hkey : keyF x = x.name := by unfold keyF; rw [if_pos ha']
          rw [hkey] at hB
          refine fR rfl ?_
          refine Mid.call (find_ok H.toPr ds hD.l on) rfl rfl rfl rfl ?_
          refine fM rfl ?_
          refine caG rfl rfl (fun hg => ⟨_, rfl, composite_ok H ds hD on, rfl⟩) rfl rfl ?_
          refine fM rfl ?_
          refine Run.cond rfl rfl (fun hc => ?_) (fun hc => ?_)
          · refine fR rfl ?_
            refine Mid.call (fieldOf_ok H.toPr ((findDef on ds).getD Def.zero) hF.fl x.name) rfl rfl rfl rfl ?_
            refine fM rfl ?_
            refine Run.cond rfl rfl (fun hf => ?_) (fun hf => ?_)
            · refine fR rfl ?_
              refine pu rfl ?_
              refine fM rfl ?_
              refine pu rfl ?_
              have hin : innF ds on x.name = ((findField x.name ((findDef on ds).getD Def.zero).fields).getD Field.zero).ty.name := (by unfold innF; rw [if_pos hc, if_pos hf])
              rw [hin] at hB
              have hcall := ih x.sels (((findField x.name ((findDef on ds).getD Def.zero).fields).getD Field.zero).ty.name) (at_ ++ [47] ++ x.name) B hsz (SelsOk.sub hx) (by omega) (by simp; omega)
              unfold SelC at hcall
              have a3 := selF_len ds q x.sels (((findField x.name ((findDef on ds).getD Def.zero).fields).getD Field.zero).ty.name) (at_ ++ [47] ++ x.name)
              generalize selF ds q x.sels (((findField x.name ((findDef on ds).getD Def.zero).fields).getD Field.zero).ty.name) (at_ ++ [47] ++ x.name) = N3 at hB a3 hcall
              refine Mid.callR [0, 1] (hcall) rfl rfl rfl rfl (by simp [stoBd]; simp [AObj.bd, V.bds, V.bd]) (by repeat' (first | exact trivial | exact rfl | refine And.intro ?_ ?_ | exact (congrArg some (AObj.ren_mE _ _ _ _ _ _)).symm | exact (congrArg some (AObj.ren_cE _ _ _)).symm)) rfl rfl (ob' := [(0, .cells [.t (.lst (ds.map Def.enc)), .t (.lst (q.ops.map Op.enc)), .t (.lst (q.frags.map Frag.enc)), .own 1 2 (List.map Fault.enc (B ++ N3))]), (1, .arr (B ++ N3).length)]) (rfl) rfl rfl ?_
              refine fM rfl ?_
              refine aL rfl rfl rfl rfl rfl ?_
              refine fM rfl ?_
              exact rWeak 2 rfl (ihl (B ++ N3) ⟨by simp; omega, by rw [← hB]; simp⟩) rfl rfl rfl
            · refine fR rfl ?_
              refine pu rfl ?_
              refine fM rfl ?_
              refine pu rfl ?_
              have hin : innF ds on x.name = ([] : Str) := (by unfold innF; rw [if_pos hc, if_neg (by rw [hf]; simp)])
              rw [hin] at hB
              have hcall := ih x.sels (([] : Str)) (at_ ++ [47] ++ x.name) B hsz (SelsOk.sub hx) (by omega) (by simp; omega)
              unfold SelC at hcall
              have a3 := selF_len ds q x.sels (([] : Str)) (at_ ++ [47] ++ x.name)
              generalize selF ds q x.sels (([] : Str)) (at_ ++ [47] ++ x.name) = N3 at hB a3 hcall
              refine Mid.callR [0, 1] (hcall) rfl rfl rfl rfl (by simp [stoBd]; simp [AObj.bd, V.bds, V.bd]) (by repeat' (first | exact trivial | exact rfl | refine And.intro ?_ ?_ | exact (congrArg some (AObj.ren_mE _ _ _ _ _ _)).symm | exact (congrArg some (AObj.ren_cE _ _ _)).symm)) rfl rfl (ob' := [(0, .cells [.t (.lst (ds.map Def.enc)), .t (.lst (q.ops.map Op.enc)), .t (.lst (q.frags.map Frag.enc)), .own 1 2 (List.map Fault.enc (B ++ N3))]), (1, .arr (B ++ N3).length)]) (rfl) rfl rfl ?_
              refine fM rfl ?_
              refine aL rfl rfl rfl rfl rfl ?_
              refine fM rfl ?_
              exact rWeak 2 rfl (ihl (B ++ N3) ⟨by simp; omega, by rw [← hB]; simp⟩) rfl rfl rfl
          · refine fR rfl ?_
            refine pu rfl ?_
            refine fM rfl ?_
            refine pu rfl ?_
            have hin : innF ds on x.name = ([] : Str) := (by unfold innF; rw [if_neg (by rw [hc]; simp)])
            rw [hin] at hB
            have hcall := ih x.sels (([] : Str)) (at_ ++ [47] ++ x.name) B hsz (SelsOk.sub hx) (by omega) (by simp; omega)
            unfold SelC at hcall
            have a3 := selF_len ds q x.sels (([] : Str)) (at_ ++ [47] ++ x.name)
            generalize selF ds q x.sels (([] : Str)) (at_ ++ [47] ++ x.name) = N3 at hB a3 hcall
            refine Mid.callR [0, 1] (hcall) rfl rfl rfl rfl (by simp [stoBd]; simp [AObj.bd, V.bds, V.bd]) (by repeat' (first | exact trivial | exact rfl | refine And.intro ?_ ?_ | exact (congrArg some (AObj.ren_mE _ _ _ _ _ _)).symm | exact (congrArg some (AObj.ren_cE _ _ _)).symm)) rfl rfl (ob' := [(0, .cells [.t (.lst (ds.map Def.enc)), .t (.lst (q.ops.map Op.enc)), .t (.lst (q.frags.map Frag.enc)), .own 1 2 (List.map Fault.enc (B ++ N3))]), (1, .arr (B ++ N3).length)]) (rfl) rfl rfl ?_
            refine fM rfl ?_
            refine aL rfl rfl rfl rfl rfl ?_
            refine fM rfl ?_
            exact rWeak 2 rfl (ihl (B ++ N3) ⟨by simp; omega, by rw [← hB]; simp⟩) rfl rfl rfl
        · have ha' : ¬ x.ali = [] := by simpa using ha
          have hkey : keyF x = x.ali := by unfold keyF; rw [if_neg ha']
          rw [hkey] at hB
          refine fR rfl ?_
          refine Mid.call (find_ok H.toPr ds hD.l on) rfl rfl rfl rfl ?_
          refine fM rfl ?_
          refine caG rfl rfl (fun hg => ⟨_, rfl, composite_ok H ds hD on, rfl⟩) rfl rfl ?_
          refine fM rfl ?_
          refine Run.cond rfl rfl (fun hc => ?_) (fun hc => ?_)
          · refine fR rfl ?_
            refine Mid.call (fieldOf_ok H.toPr ((findDef on ds).getD Def.zero) hF.fl x.name) rfl rfl rfl rfl ?_
            refine fM rfl ?_
            refine Run.cond rfl rfl (fun hf => ?_) (fun hf => ?_)
            · refine fR rfl ?_
              refine pu rfl ?_
              refine fM rfl ?_
              refine pu rfl ?_
              have hin : innF ds on x.name = ((findField x.name ((findDef on ds).getD Def.zero).fields).getD Field.zero).ty.name := (by unfold innF; rw [if_pos hc, if_pos hf])
              rw [hin] at hB
              have hcall := ih x.sels (((findField x.name ((findDef on ds).getD Def.zero).fields).getD Field.zero).ty.name) (at_ ++ [47] ++ x.ali) B hsz (SelsOk.sub hx) (by omega) (by simp; omega)
              unfold SelC at hcall
              have a3 := selF_len ds q x.sels (((findField x.name ((findDef on ds).getD Def.zero).fields).getD Field.zero).ty.name) (at_ ++ [47] ++ x.ali)
              generalize selF ds q x.sels (((findField x.name ((findDef on ds).getD Def.zero).fields).getD Field.zero).ty.name) (at_ ++ [47] ++ x.ali) = N3 at hB a3 hcall
              refine Mid.callR [0, 1] (hcall) rfl rfl rfl rfl (by simp [stoBd]; simp [AObj.bd, V.bds, V.bd]) (by repeat' (first | exact trivial | exact rfl | refine And.intro ?_ ?_ | exact (congrArg some (AObj.ren_mE _ _ _ _ _ _)).symm | exact (congrArg some (AObj.ren_cE _ _ _)).symm)) rfl rfl (ob' := [(0, .cells [.t (.lst (ds.map Def.enc)), .t (.lst (q.ops.map Op.enc)), .t (.lst (q.frags.map Frag.enc)), .own 1 2 (List.map Fault.enc (B ++ N3))]), (1, .arr (B ++ N3).length)]) (rfl) rfl rfl ?_
              refine fM rfl ?_
              refine aL rfl rfl rfl rfl rfl ?_
              refine fM rfl ?_
              exact rWeak 2 rfl (ihl (B ++ N3) ⟨by simp; omega, by rw [← hB]; simp⟩) rfl rfl rfl
            · refine fR rfl ?_
              refine pu rfl ?_
              refine fM rfl ?_
              refine pu rfl ?_
              have hin : innF ds on x.name = ([] : Str) := (by unfold innF; rw [if_pos hc, if_neg (by rw [hf]; simp)])
              rw [hin] at hB
              have hcall := ih x.sels (([] : Str)) (at_ ++ [47] ++ x.ali) B hsz (SelsOk.sub hx) (by omega) (by simp; omega)
              unfold SelC at hcall
              have a3 := selF_len ds q x.sels (([] : Str)) (at_ ++ [47] ++ x.ali)
              generalize selF ds q x.sels (([] : Str)) (at_ ++ [47] ++ x.ali) = N3 at hB a3 hcall
              refine Mid.callR [0, 1] (hcall) rfl rfl rfl rfl (by simp [stoBd]; simp [AObj.bd, V.bds, V.bd]) (by repeat' (first | exact trivial | exact rfl | refine And.intro ?_ ?_ | exact (congrArg some (AObj.ren_mE _ _ _ _ _ _)).symm | exact (congrArg some (AObj.ren_cE _ _ _)).symm)) rfl rfl (ob' := [(0, .cells [.t (.lst (ds.map Def.enc)), .t (.lst (q.ops.map Op.enc)), .t (.lst (q.frags.map Frag.enc)), .own 1 2 (List.map Fault.enc (B ++ N3))]), (1, .arr (B ++ N3).length)]) (rfl) rfl rfl ?_
              refine fM rfl ?_
              refine aL rfl rfl rfl rfl rfl ?_
              refine fM rfl ?_
              exact rWeak 2 rfl (ihl (B ++ N3) ⟨by simp; omega, by rw [← hB]; simp⟩) rfl rfl rfl
          · refine fR rfl ?_
            refine pu rfl ?_
            refine fM rfl ?_
            refine pu rfl ?_
            have hin : innF ds on x.name = ([] : Str) := (by unfold innF; rw [if_neg (by rw [hc]; simp)])
            rw [hin] at hB
            have hcall := ih x.sels (([] : Str)) (at_ ++ [47] ++ x.ali) B hsz (SelsOk.sub hx) (by omega) (by simp; omega)
            unfold SelC at hcall
            have a3 := selF_len ds q x.sels (([] : Str)) (at_ ++ [47] ++ x.ali)
            generalize selF ds q x.sels (([] : Str)) (at_ ++ [47] ++ x.ali) = N3 at hB a3 hcall
            refine Mid.callR [0, 1] (hcall) rfl rfl rfl rfl (by simp [stoBd]; simp [AObj.bd, V.bds, V.bd]) (by repeat' (first | exact trivial | exact rfl | refine And.intro ?_ ?_ | exact (congrArg some (AObj.ren_mE _ _ _ _ _ _)).symm | exact (congrArg some (AObj.ren_cE _ _ _)).symm)) rfl rfl (ob' := [(0, .cells [.t (.lst (ds.map Def.enc)), .t (.lst (q.ops.map Op.enc)), .t (.lst (q.frags.map Frag.enc)), .own 1 2 (List.map Fault.enc (B ++ N3))]), (1, .arr (B ++ N3).length)]) (rfl) rfl rfl ?_
            refine fM rfl ?_
            refine aL rfl rfl rfl rfl rfl ?_
            refine fM rfl ?_
            exact rWeak 2 rfl (ihl (B ++ N3) ⟨by simp; omega, by rw [← hB]; simp⟩) rfl rfl rfl
theorem sels_ok (H : Pr13 P) (ds : List Def) (hD : DocOk ds) (q : Query) (hq : q.Ok) : ∀ (l : List Sel) (on at_ : Str) (hl : SelsOk l) (out : List Fault) (ho : out.length + Sel.ws l ≤ 4398046511104) (ha : at_.length + Sel.ws l ≤ 4398046511104), SelC P ds q out l on at_
  | l, on, at_, hl, out, ho, ha => sels_step H ds hD q hq l on at_ hl out ho ha fun l' on' at' out' h h1 h2 h3 => sels_ok H ds hD q hq l' on' at' h1 out' h2 h3
termination_by l => SizeOf.sizeOf l
end Go.GB.C11


/-
  E13E: chapter 13's functions: the check of documents.
-/
namespace Go.GB.C11
open Go.GB
set_option linter.unusedSimpArgs false
set_option linter.unusedVariables false
set_option maxRecDepth 100000
set_option maxHeartbeats 4000000
variable {P : Program}

def opsW (l : List Op) : Nat := (l.map fun o => Sel.ws o.sels + o.name.length).sum
def frW (l : List Frag) : Nat := (l.map fun o => Sel.ws o.sels + o.name.length + 3).sum
theorem opsW_cons (o : Op) (l : List Op) : opsW (o :: l) = Sel.ws o.sels + o.name.length + opsW l := by simp [opsW]
theorem frW_cons (o : Frag) (l : List Frag) : frW (o :: l) = Sel.ws o.sels + o.name.length + 3 + frW l := by simp [frW]
theorem opsW_mem : ∀ {l : List Op} {o : Op}, o ∈ l → Sel.ws o.sels + o.name.length ≤ opsW l
  | [], o, h => by cases h
  | y :: r, o, h => by
    rw [opsW_cons]
    rcases List.mem_cons.1 h with rfl | h
    · omega
    · have := opsW_mem h; omega
theorem frW_mem : ∀ {l : List Frag} {o : Frag}, o ∈ l → Sel.ws o.sels + o.name.length + 3 ≤ frW l
  | [], o, h => by cases h
  | y :: r, o, h => by
    rw [frW_cons]
    rcases List.mem_cons.1 h with rfl | h
    · omega
    · have := frW_mem h; omega
def opL (ds : List Def) (q : Query) : List Op → List Fault
  | [] => []
  | o :: r => selF ds q o.sels (rootF o.kind) o.name ++ opL ds q r
def frL (ds : List Def) (q : Query) : List Frag → List Fault
  | [] => []
  | f :: r => ifL (!compF ds f.on) ⟨24, f.name⟩ ++ ifL (loopF q f) ⟨24, f.name⟩ ++ ifL (!usedF q f.name) ⟨26, f.name⟩ ++ selF ds q f.sels f.on f.name ++ frL ds q r
def chkF (ds : List Def) (q : Query) : List Fault := opL ds q q.ops ++ frL ds q q.frags
theorem opL_len (ds : List Def) (q : Query) : ∀ l : List Op, (opL ds q l).length ≤ opsW l
  | [] => by simp [opL]
  | o :: r => by
    have := opL_len ds q r; have := selF_len ds q o.sels (rootF o.kind) o.name
    rw [opsW_cons]; simp only [opL, List.length_append]; omega
theorem frL_len (ds : List Def) (q : Query) : ∀ l : List Frag, (frL ds q l).length ≤ frW l
  | [] => by simp [frL]
  | o :: r => by
    have := frL_len ds q r; have := selF_len ds q o.sels o.on o.name
    have := ifL_len (!compF ds o.on) ⟨24, o.name⟩; have := ifL_len (loopF q o) ⟨24, o.name⟩; have := ifL_len (!usedF q o.name) ⟨26, o.name⟩
    rw [frW_cons]; simp only [frL, List.length_append]; omega
theorem chkF_len (ds : List Def) (q : Query) : (chkF ds q).length ≤ opsW q.ops + frW q.frags := by
  have := opL_len ds q q.ops; have := frL_len ds q q.frags
  unfold chkF; rw [List.length_append]; omega
/-- the names that are used, as a map -/
def UsedI (q : Query) (l : List Op) (M : List (Str × Bool)) : Prop := ∀ k, (kget k M).getD false = l.any fun o => decide (k ∈ (wF q o.sels).1)
theorem kset_list {M : List (Str × Bool)} (x k : Str) : (kget k (kset x true M)).getD false = ((kget k M).getD false || decide (k = x)) := by
  rw [kget_kset]
  by_cases h : k = x
  · subst h; simp
  · simp [h]
theorem check13_ok (H : Pr13 P) (ds : List Def) (hD : DocOk ds) (q : Query) (hq : q.Ok) (hw : opsW q.ops + frW q.frags ≤ 1099511627776) : FnOk P 41 [docV ds, q.v] ⟨[], 0⟩ { v := .t (.lst ((chkF ds q).map Fault.enc)) } := by
  have hfl := hq.fl
  have hol := hq.ol
  have hct := chkF_len ds q
  generalize hT : chkF ds q = tot at hct
  refine FnOk.run H.i41 H.mixed rfl rfl ?_
  refine fR rfl ?_
  refine Mid.mkmapT sE bE rfl ?_
  refine fM rfl ?_
  refine lM rfl rfl rfl ?_
  refine fM rfl ?_
  refine rList q.ops (fun i (B : List Fault × List (Str × Bool)) => { env := [(2, .ptr 0 0), (3, .ptr 1 0), (5, .ptr 2 0), (6, .mp 3), (21, .t (.lst (q.ops.map Op.enc))), (22, .t (.int .i64 q.ops.length)), (23, .t (.int .i64 i))], s := ⟨[(0, .cells [.t (.lst (ds.map Def.enc))]), (1, .cells [.t (.lst (q.ops.map Op.enc)), .t (.lst (q.frags.map Frag.enc))]), (2, .cells [.t (.lst (ds.map Def.enc)), .t (.lst (q.ops.map Op.enc)), .t (.lst (q.frags.map Frag.enc)), .own 4 2 (List.map Fault.enc (B.1))]), (3, .map false (mE sE bE B.2) none), (4, .arr (B.1).length)], 5⟩ }) (fun r i B => B.1.length + opsW r ≤ opsW q.ops ∧ UsedI q (q.ops.take i) B.2 ∧ B.1 ++ opL ds q r = opL ds q q.ops) 4 ([], []) rfl ⟨by simp, by intro k; simp [kget], rfl⟩ rfl rfl rfl ?_ ?_
  · rintro ⟨B, M⟩ ⟨_, hM, hB⟩
    have hM' : UsedI q q.ops M := by have := hM; simpa using this
    have hB' : B = opL ds q q.ops := by have := hB; simpa [opL] using this
    have hBl := opL_len ds q q.ops
    rw [← hB'] at hBl
    dsimp only
    refine fR rfl ?_
    refine Run.condF rfl rfl (by simp) ?_
    refine fR rfl ?_
    refine lM rfl rfl rfl ?_
    refine fM rfl ?_
    refine rList q.frags (fun i (B : List Fault) => { env := [(2, .ptr 0 0), (3, .ptr 1 0), (5, .ptr 2 0), (6, .mp 3), (54, .t (.lst (q.frags.map Frag.enc))), (55, .t (.int .i64 q.frags.length)), (56, .t (.int .i64 i))], s := ⟨[(0, .cells [.t (.lst (ds.map Def.enc))]), (1, .cells [.t (.lst (q.ops.map Op.enc)), .t (.lst (q.frags.map Frag.enc))]), (2, .cells [.t (.lst (ds.map Def.enc)), .t (.lst (q.ops.map Op.enc)), .t (.lst (q.frags.map Frag.enc)), .own 4 2 (List.map Fault.enc (B))]), (3, .map false (mE sE bE M) none), (4, .arr (B).length)], 5⟩ }) (fun r i C => C.length + frW r ≤ opsW q.ops + frW q.frags ∧ C ++ frL ds q r = tot) 5 B rfl ⟨by omega, by rw [hB', ← hT]; rfl⟩ rfl rfl rfl ?_ ?_
    · rintro C ⟨_, hC⟩
      obtain rfl : C = tot := by rw [← hC]; simp [frL]
      refine fR rfl ?_
      refine Run.condF rfl rfl (by simp) ?_
      refine fR rfl ?_
      refine Run.fin rfl (EndOk.go ?_); exact .own rfl
    · rintro i f r C h1 hi hd ⟨hlC, hC⟩ ih
      rw [frW_cons] at hlC
      simp only [frL] at hC
      have hfm : f ∈ q.frags := List.mem_of_getElem? h1
      have hfk := hq.f f hfm
      have hfw := frW_mem hfm
      have hu : (kget f.name M).getD false = usedF q f.name := hM' f.name
      refine fR rfl ?_
      refine Run.condT rfl rfl (by simp; omega) ?_
      refine fR rfl ?_
      refine Mid.elemMap rfl rfl rfl h1 rfl rfl ?_
      refine fM rfl ?_
      refine Mid.call (composite_ok H ds hD f.on) rfl rfl rfl rfl ?_
      refine fM rfl ?_
      refine Mid.callR [2, 4] (add13_ok H ds q C (!compF ds f.on) 24 f.name (by omega)) rfl rfl rfl rfl (by simp [stoBd]; simp [AObj.bd, V.bds, V.bd]) (by repeat' (first | exact trivial | exact rfl | refine And.intro ?_ ?_ | exact (congrArg some (AObj.ren_mE _ _ _ _ _ _)).symm | exact (congrArg some (AObj.ren_cE _ _ _)).symm)) rfl rfl (ob' := [(2, .cells [.t (.lst (ds.map Def.enc)), .t (.lst (q.ops.map Op.enc)), .t (.lst (q.frags.map Frag.enc)), .own 4 2 (List.map Fault.enc (C ++ ifL (!compF ds f.on) ⟨24, f.name⟩))]), (4, .arr (C ++ ifL (!compF ds f.on) ⟨24, f.name⟩).length)]) (rfl) rfl rfl ?_
      refine fM rfl ?_
      have a1 := ifL_len (!compF ds f.on) ⟨24, f.name⟩
      generalize ifL (!compF ds f.on) ⟨24, f.name⟩ = N1 at hC a1
      refine Mid.call (loops_ok H q hq f hfk) rfl rfl rfl rfl ?_
      refine fM rfl ?_
      refine Mid.callR [2, 4] (add13_ok H ds q (C ++ N1) (loopF q f) 24 f.name (by simp; omega)) rfl rfl rfl rfl (by simp [stoBd]; simp [AObj.bd, V.bds, V.bd]) (by repeat' (first | exact trivial | exact rfl | refine And.intro ?_ ?_ | exact (congrArg some (AObj.ren_mE _ _ _ _ _ _)).symm | exact (congrArg some (AObj.ren_cE _ _ _)).symm)) rfl rfl (ob' := [(2, .cells [.t (.lst (ds.map Def.enc)), .t (.lst (q.ops.map Op.enc)), .t (.lst (q.frags.map Frag.enc)), .own 4 2 (List.map Fault.enc (C ++ N1 ++ ifL (loopF q f) ⟨24, f.name⟩))]), (4, .arr (C ++ N1 ++ ifL (loopF q f) ⟨24, f.name⟩).length)]) (rfl) rfl rfl ?_
      refine fM rfl ?_
      have a2 := ifL_len (loopF q f) ⟨24, f.name⟩
      generalize ifL (loopF q f) ⟨24, f.name⟩ = N2 at hC a2
      refine Mid.lookT (f.name) rfl rfl rfl rfl rfl (sE_ok) rfl ?_
      refine fM rfl ?_
      rw [hu]
      refine Mid.callR [2, 4] (add13_ok H ds q (C ++ N1 ++ N2) (!usedF q f.name) 26 f.name (by simp; omega)) rfl rfl rfl rfl (by simp [stoBd]; simp [AObj.bd, V.bds, V.bd]) (by repeat' (first | exact trivial | exact rfl | refine And.intro ?_ ?_ | exact (congrArg some (AObj.ren_mE _ _ _ _ _ _)).symm | exact (congrArg some (AObj.ren_cE _ _ _)).symm)) rfl rfl (ob' := [(2, .cells [.t (.lst (ds.map Def.enc)), .t (.lst (q.ops.map Op.enc)), .t (.lst (q.frags.map Frag.enc)), .own 4 2 (List.map Fault.enc (C ++ N1 ++ N2 ++ ifL (!usedF q f.name) ⟨26, f.name⟩))]), (4, .arr (C ++ N1 ++ N2 ++ ifL (!usedF q f.name) ⟨26, f.name⟩).length)]) (rfl) rfl rfl ?_
      refine fM rfl ?_
      have a3 := ifL_len (!usedF q f.name) ⟨26, f.name⟩
      generalize ifL (!usedF q f.name) ⟨26, f.name⟩ = N3 at hC a3
      have hcall := sels_ok H ds hD q hq f.sels f.on f.name hfk.s (C ++ N1 ++ N2 ++ N3) (by simp; omega) (by omega)
      unfold SelC at hcall
      have a4 := selF_len ds q f.sels f.on f.name
      generalize selF ds q f.sels f.on f.name = N4 at hC a4 hcall
      refine Mid.callR [2, 4] (hcall) rfl rfl rfl rfl (by simp [stoBd]; simp [AObj.bd, V.bds, V.bd]) (by repeat' (first | exact trivial | exact rfl | refine And.intro ?_ ?_ | exact (congrArg some (AObj.ren_mE _ _ _ _ _ _)).symm | exact (congrArg some (AObj.ren_cE _ _ _)).symm)) rfl rfl (ob' := [(2, .cells [.t (.lst (ds.map Def.enc)), .t (.lst (q.ops.map Op.enc)), .t (.lst (q.frags.map Frag.enc)), .own 4 2 (List.map Fault.enc (C ++ N1 ++ N2 ++ N3 ++ N4))]), (4, .arr (C ++ N1 ++ N2 ++ N3 ++ N4).length)]) (rfl) rfl rfl ?_
      refine fM rfl ?_
      refine aL rfl rfl rfl rfl rfl ?_
      refine fM rfl ?_
      exact rWeak 5 rfl (ih (C ++ N1 ++ N2 ++ N3 ++ N4) ⟨by simp; omega, by rw [← hC]; simp⟩) rfl rfl rfl
  · rintro i o r ⟨B, M⟩ h1 hi hd ⟨hlB, hM, hB⟩ ih
    dsimp only at hlB hM hB ih ⊢
    rw [opsW_cons] at hlB
    simp only [opL] at hB
    have hom : o ∈ q.ops := List.mem_of_getElem? h1
    have hok := hq.o o hom
    have how := opsW_mem hom
    have hwl := wF_len q o.sels
    have htk : q.ops.take i ++ [o] = q.ops.take (i + 1) := by rw [List.take_add_one, h1]; rfl
    refine fR rfl ?_
    refine Run.condT rfl rfl (by simp; omega) ?_
    refine fR rfl ?_
    refine Mid.elemMap rfl rfl rfl h1 rfl rfl ?_
    refine fM rfl ?_
    refine Mid.call (root_ok H o.kind) rfl rfl rfl rfl ?_
    refine fM rfl ?_
    have hcall := sels_ok H ds hD q hq o.sels (rootF o.kind) o.name hok.s B (by omega) (by omega)
    unfold SelC at hcall
    have a4 := selF_len ds q o.sels (rootF o.kind) o.name
    generalize selF ds q o.sels (rootF o.kind) o.name = N4 at hB a4 hcall
    refine Mid.callR [2, 4] (hcall) rfl rfl rfl rfl (by simp [stoBd]; simp [AObj.bd, V.bds, V.bd]) (by repeat' (first | exact trivial | exact rfl | refine And.intro ?_ ?_ | exact (congrArg some (AObj.ren_mE _ _ _ _ _ _)).symm | exact (congrArg some (AObj.ren_cE _ _ _)).symm)) rfl rfl (ob' := [(2, .cells [.t (.lst (ds.map Def.enc)), .t (.lst (q.ops.map Op.enc)), .t (.lst (q.frags.map Frag.enc)), .own 4 2 (List.map Fault.enc (B ++ N4))]), (4, .arr (B ++ N4).length)]) (rfl) rfl rfl ?_
    refine fM rfl ?_
    refine Mid.callO [] ((walk_ok H q hq q.frags.length o.sels [] hok.s (WOk.start q)).nil) rfl rfl rfl rfl (by simp [stoBd]) (by repeat' (first | exact trivial | exact rfl | refine And.intro ?_ ?_ | exact (congrArg some (AObj.ren_mE _ _ _ _ _ _)).symm | exact (congrArg some (AObj.ren_cE _ _ _)).symm)) rfl rfl (ob' := [(6, .arr (wF q o.sels).1.length)]) (rfl) rfl rfl ?_
    refine fM rfl ?_
    refine lM rfl rfl rfl ?_
    refine fM rfl ?_
    generalize hW : (wF q o.sels).1 = W at hwl
    refine rList W (fun k (N : List (Str × Bool)) => { env := [(2, .ptr 0 0), (3, .ptr 1 0), (5, .ptr 2 0), (6, .mp 3), (21, .t (.lst (q.ops.map Op.enc))), (22, .t (.int .i64 q.ops.length)), (23, .t (.int .i64 i)), (43, .t (.lst (W.map sE))), (44, .t (.int .i64 W.length)), (45, .t (.int .i64 k))], s := ⟨[(0, .cells [.t (.lst (ds.map Def.enc))]), (1, .cells [.t (.lst (q.ops.map Op.enc)), .t (.lst (q.frags.map Frag.enc))]), (2, .cells [.t (.lst (ds.map Def.enc)), .t (.lst (q.ops.map Op.enc)), .t (.lst (q.frags.map Frag.enc)), .own 4 2 (List.map Fault.enc (B ++ N4))]), (3, .map false (mE sE bE N) none), (4, .arr (B ++ N4).length)], 5⟩ }) (fun r k N => ∀ x, (kget x N).getD false = ((kget x M).getD false || decide (x ∈ W.take k))) 5 M rfl (by intro x; simp) rfl rfl rfl ?_ ?_
    · rintro N hN
      have hN' : UsedI q (q.ops.take (i + 1)) N := by
        intro x
        rw [hN x, hM x, ← htk, List.any_append, List.take_length]
        simp [hW]
      refine fR rfl ?_
      refine Run.condF rfl rfl (by simp) ?_
      refine fR rfl ?_
      refine aL rfl rfl rfl rfl rfl ?_
      refine fM rfl ?_
      exact rWeak 5 rfl (ih (B ++ N4, N) ⟨by simp; omega, hN', by rw [← hB]; simp⟩) rfl rfl rfl
    · rintro k x s N g1 gi gd hN ih2
      have gtk : W.take k ++ [x] = W.take (k + 1) := by rw [List.take_add_one, g1]; rfl
      refine fR rfl ?_
      refine Run.condT rfl rfl (by simp; omega) ?_
      refine fR rfl ?_
      refine Mid.elemMap rfl rfl rfl g1 rfl rfl ?_
      refine fM rfl ?_
      refine Mid.mapT (x) rfl rfl rfl rfl (sE_ok) rfl ?_
      refine fM rfl ?_
      refine aL rfl rfl rfl rfl rfl ?_
      refine fM rfl ?_
      exact rWeak 5 rfl (ih2 (kset x true N) (by intro y; rw [kset_list, hN y, ← gtk]; simp [List.mem_append, Bool.or_assoc])) rfl rfl rfl
end Go.GB.C11


/-
  E13F: chapter 13's functions: the reference's check of documents.
-/
namespace Go.GB.C11
open Go.GB
set_option linter.unusedSimpArgs false
set_option linter.unusedVariables false
set_option maxRecDepth 100000
set_option maxHeartbeats 4000000
variable {P : Program}

end Go.GB.C11


/-
  E13G: chapter 13's functions: large documents.
-/
namespace Go.GB.C11
open Go.GB
set_option linter.unusedSimpArgs false
set_option linter.unusedVariables false
set_option maxRecDepth 100000
set_option maxHeartbeats 4000000
variable {P : Program}

def deepF (lv : Int) : List Sel → Bool
  | [] => false
  | s :: r => (decide (lv ≤ 0) || deepF (IntKind.i64.wrap (lv - 1)) s.sels) || deepF lv r
termination_by l => SizeOf.sizeOf l
decreasing_by
  all_goals simp_wf
  all_goals (have := Sel.size_sels s; omega)
def cntF (lim n : Int) : List Sel → Int
  | [] => n
  | s :: r => if n < lim then cntF lim (IntKind.i64.wrap (n + IntKind.i64.wrap (IntKind.i64.wrap (IntKind.i64.wrap (1 + (s.args.length : Nat)) + (s.dirs.length : Nat)) + cntF (IntKind.i64.wrap (lim - n)) 0 s.sels))) r else n
termination_by l => SizeOf.sizeOf l
decreasing_by
  all_goals simp_wf
  all_goals (have := Sel.size_sels s; omega)
theorem deepF_nil (lv : Int) : deepF lv [] = false := by rw [deepF]
theorem deepF_cons (lv : Int) (s : Sel) (r : List Sel) : deepF lv (s :: r) = ((decide (lv ≤ 0) || deepF (IntKind.i64.wrap (lv - 1)) s.sels) || deepF lv r) := by rw [deepF]
theorem cntF_nil (lim n : Int) : cntF lim n [] = n := by rw [cntF]
theorem cntF_lt {lim n : Int} (h : n < lim) (s : Sel) (r : List Sel) : cntF lim n (s :: r) = cntF lim (IntKind.i64.wrap (n + IntKind.i64.wrap (IntKind.i64.wrap (IntKind.i64.wrap (1 + (s.args.length : Nat)) + (s.dirs.length : Nat)) + cntF (IntKind.i64.wrap (lim - n)) 0 s.sels))) r := by rw [cntF, if_pos h]
theorem cntF_ge {lim n : Int} (h : ¬ n < lim) (s : Sel) (r : List Sel) : cntF lim n (s :: r) = n := by rw [cntF, if_neg h]
def DeepC (P : Program) (lv : Int) (l : List Sel) : Prop := FnOk P 69 [.t (.lst (l.map Sel.enc)), .t (.int .i64 lv)] ⟨[], 0⟩ { v := .t (.bool (deepF lv l)) }
theorem deep_step (H : Pr13 P) (lv : Int) (l : List Sel) (hl : SelsOk l) (ih : ∀ lv' l', SizeOf.sizeOf l' < SizeOf.sizeOf l → SelsOk l' → DeepC P lv' l') : DeepC P lv l := by
  have hll := hl.1
  unfold DeepC
  generalize hT : deepF lv l = tot
  refine FnOk.run H.i69 H.mixed rfl rfl ?_
  refine fR rfl ?_
  refine rList l (fun i (_ : Unit) => { env := [(0, .t (.lst (l.map Sel.enc))), (1, .t (.int .i64 lv)), (5, .t (.int .i64 i))], s := ⟨[], 0⟩ }) (fun r i _ => deepF lv r = tot) 0 () rfl hT rfl rfl rfl ?_ ?_
  · intro _ hinv
    rw [deepF_nil] at hinv
    refine fR rfl ?_
    refine lM rfl rfl rfl ?_
    refine fM rfl ?_
    refine Run.condF rfl rfl (by simp) ?_
    refine fR rfl ?_
    refine Run.fin rfl (EndOk.go ?_); exact .t (by rw [← hinv])
  · intro i x r _ h1 hi hd hinv ihl
    rw [deepF_cons] at hinv
    have hxm : x ∈ l := List.mem_of_getElem? h1
    have hx := hl.2 x hxm
    have hsz : SizeOf.sizeOf x.sels < SizeOf.sizeOf l := Nat.lt_trans (Sel.size_sels x) (List.sizeOf_lt_of_mem hxm)
    have hcall := ih (IntKind.i64.wrap (lv - 1)) x.sels hsz (SelsOk.sub hx)
    unfold DeepC at hcall
    refine fR rfl ?_
    refine lM rfl rfl rfl ?_
    refine fM rfl ?_
    refine Run.condT rfl rfl (by simp; omega) ?_
    refine fR rfl ?_
    refine Mid.elemMapCG (Sel.enc_eq x) rfl rfl rfl rfl h1 rfl (by (repeat' (first | exact trivial | exact Bool.not_or_self _ | exact grd1 _ | exact grd2 _ | exact grd3 _ _ | exact grd4 _ _ | refine And.intro ?_ ?_ | exact rfl | (simp; done) | (simp <;> omega))); done) (by (repeat' (first | exact trivial | exact Bool.not_or_self _ | exact grd1 _ | exact grd2 _ | exact grd3 _ _ | exact grd4 _ _ | refine And.intro ?_ ?_ | exact rfl | (simp; done) | (simp <;> omega))); done) rfl ?_
    refine fM rfl ?_
    refine gr rfl ?_
    refine caG rfl rfl (fun hg => ⟨_, rfl, hcall, rfl⟩) rfl rfl ?_
    refine fM rfl ?_
    refine Run.cond rfl rfl (fun hc => ?_) (fun hc => ?_)
    · refine fR rfl ?_
      refine Run.fin rfl (EndOk.go ?_); exact .t (by rw [← hinv, hc]; rfl)
    · refine fR rfl ?_
      refine aL rfl rfl rfl rfl rfl ?_
      refine fM rfl ?_
      exact rWeak 0 rfl (ihl () (by rw [← hinv, hc]; rfl)) rfl rfl rfl
theorem deep_ok (H : Pr13 P) : ∀ (lv : Int) (l : List Sel) (hl : SelsOk l), DeepC P lv l
  | lv, l, hl => deep_step H lv l hl fun lv' l' h h1 => deep_ok H lv' l' h1
termination_by lv l => SizeOf.sizeOf l
def CntC (P : Program) (lim : Int) (l : List Sel) : Prop := FnOk P 70 [.t (.lst (l.map Sel.enc)), .t (.int .i64 lim)] ⟨[], 0⟩ { v := .t (.int .i64 (cntF lim 0 l)) }
theorem count_step (H : Pr13 P) (lim : Int) (l : List Sel) (hl : SelsOk l) (ih : ∀ lim' l', SizeOf.sizeOf l' < SizeOf.sizeOf l → SelsOk l' → CntC P lim' l') : CntC P lim l := by
  have hll := hl.1
  unfold CntC
  generalize hT : cntF lim 0 l = tot
  refine FnOk.run H.i70 H.mixed rfl rfl ?_
  refine fR rfl ?_
  refine rList l (fun i (n : Int) => { env := [(0, .t (.lst (l.map Sel.enc))), (1, .t (.int .i64 lim)), (5, .t (.int .i64 n)), (6, .t (.int .i64 i))], s := ⟨[], 0⟩ }) (fun r i n => cntF lim n r = tot) 0 0 rfl hT rfl rfl rfl ?_ ?_
  · intro n hinv
    rw [cntF_nil] at hinv
    refine fR rfl ?_
    refine lM rfl rfl rfl ?_
    refine fM rfl ?_
    refine Run.condF rfl rfl (by simp) ?_
    refine fR rfl ?_
    refine Run.fin rfl (EndOk.go ?_); exact .t (by rw [← hinv])
  · intro i x r n h1 hi hd hinv ihl
    have hxm : x ∈ l := List.mem_of_getElem? h1
    have hx := hl.2 x hxm
    have hsz : SizeOf.sizeOf x.sels < SizeOf.sizeOf l := Nat.lt_trans (Sel.size_sels x) (List.sizeOf_lt_of_mem hxm)
    have hcall := ih (IntKind.i64.wrap (lim - n)) x.sels hsz (SelsOk.sub hx)
    unfold CntC at hcall
    refine fR rfl ?_
    refine lM rfl rfl rfl ?_
    refine fM rfl ?_
    by_cases hlt : n < lim
    · rw [cntF_lt hlt] at hinv
      refine Run.condT rfl rfl (by simp; omega) ?_
      refine fR rfl ?_
      refine Mid.elemMapC (Sel.enc_eq x) rfl rfl rfl h1 rfl rfl ?_
      refine fM rfl ?_
      refine lM rfl rfl rfl ?_
      refine p0 rfl ?_
      refine fM rfl ?_
      refine Mid.elemMapC (Sel.enc_eq x) rfl rfl rfl h1 rfl rfl ?_
      refine fM rfl ?_
      refine lM rfl rfl rfl ?_
      refine p0 rfl ?_
      refine fM rfl ?_
      refine Mid.elemMapC (Sel.enc_eq x) rfl rfl rfl h1 rfl rfl ?_
      refine fM rfl ?_
      refine p0 rfl ?_
      refine Mid.call (hcall) rfl rfl rfl rfl ?_
      refine p0 rfl ?_
      refine p0 rfl ?_
      refine fM rfl ?_
      refine aL rfl rfl rfl rfl rfl ?_
      refine fM rfl ?_
      exact rWeak 0 rfl (ihl (IntKind.i64.wrap (n + IntKind.i64.wrap (IntKind.i64.wrap (IntKind.i64.wrap (1 + (x.args.length : Nat)) + (x.dirs.length : Nat)) + cntF (IntKind.i64.wrap (lim - n)) 0 x.sels))) hinv) rfl rfl rfl
    · rw [cntF_ge hlt] at hinv
      refine Run.condF rfl rfl (by simp; omega) ?_
      refine fR rfl ?_
      refine Run.fin rfl (EndOk.go ?_); exact .t (by rw [← hinv])
theorem count_ok (H : Pr13 P) : ∀ (lim : Int) (l : List Sel) (hl : SelsOk l), CntC P lim l
  | lim, l, hl => count_step H lim l hl fun lim' l' h h1 => count_ok H lim' l' h1
termination_by lim l => SizeOf.sizeOf l
def lgO : Int → List Op → Option Int
  | n, [] => some n
  | n, o :: r => if (deepF 26 o.sels || decide ((o.vars.length : Int) > 30)) = true then none else lgO (IntKind.i64.wrap (n + cntF 300 0 o.sels)) r
def lgR : Int → List Frag → Option Int
  | n, [] => some n
  | n, o :: r => if deepF 26 o.sels = true then none else lgR (IntKind.i64.wrap (n + cntF 300 0 o.sels)) r
def largeQ (q : Query) : Bool :=
  (decide ((q.ops.length : Int) > 8) || decide ((q.frags.length : Int) > 12)) || (match lgO 0 q.ops with | none => true | some n => match lgR n q.frags with | none => true | some m => decide (m > 300))
theorem largeQ_ok (H : Pr13 P) (q : Query) (hq : q.Ok) : FnOk P 32 [q.v] ⟨[], 0⟩ { v := .t (.bool (largeQ q)) } := by
  have hfl := hq.fl
  have hol := hq.ol
  generalize hT : largeQ q = tot
  unfold largeQ at hT
  refine FnOk.run H.i32 H.mixed rfl rfl ?_
  refine fR rfl ?_
  refine lM rfl rfl rfl ?_
  refine fM rfl ?_
  refine lMG rfl rfl rfl rfl ?_
  refine fM rfl ?_
  refine Run.cond rfl rfl (fun h => ?_) (fun h => ?_)
  · rw [h] at hT
    refine fR rfl ?_
    refine Run.fin rfl (EndOk.go ?_); exact .t (by rw [← hT]; rfl)
  · rw [h] at hT
    simp only [Bool.false_or] at hT
    refine fR rfl ?_
    refine rList q.ops (fun i (n : Int) => { env := [(1, .ptr 0 0), (3, .t (.int .i64 n)), (4, .t (.int .i64 i))], s := ⟨[(0, .cells [.t (.lst (q.ops.map Op.enc)), .t (.lst (q.frags.map Frag.enc))])], 1⟩ }) (fun r i n => (match lgO n r with | none => true | some n => match lgR n q.frags with | none => true | some m => decide (m > 300)) = tot) 1 0 rfl hT rfl rfl rfl ?_ ?_
    · intro n hinv
      simp only [lgO] at hinv
      refine fR rfl ?_
      refine lM rfl rfl rfl ?_
      refine fM rfl ?_
      refine Run.condF rfl rfl (by simp) ?_
      refine fR rfl ?_
      refine rList q.frags (fun i (n : Int) => { env := [(1, .ptr 0 0), (3, .t (.int .i64 n)), (5, .t (.int .i64 i))], s := ⟨[(0, .cells [.t (.lst (q.ops.map Op.enc)), .t (.lst (q.frags.map Frag.enc))])], 1⟩ }) (fun r i n => (match lgR n r with | none => true | some m => decide (m > 300)) = tot) 1 n rfl hinv rfl rfl rfl ?_ ?_
      · intro n2 hinv2
        simp only [lgR] at hinv2
        refine fR rfl ?_
        refine lM rfl rfl rfl ?_
        refine fM rfl ?_
        refine Run.condF rfl rfl (by simp) ?_
        refine fR rfl ?_
        refine Run.fin rfl (EndOk.go ?_); exact .t (by rw [← hinv2])
      · intro i x r n2 h1 hi hd hinv2 ih
        have hxk := hq.f x (List.mem_of_getElem? h1)
        have hdc := deep_ok H 26 x.sels hxk.s
        have hcc := count_ok H 300 x.sels hxk.s
        unfold DeepC at hdc
        unfold CntC at hcc
        refine fR rfl ?_
        refine lM rfl rfl rfl ?_
        refine fM rfl ?_
        refine Run.condT rfl rfl (by simp; omega) ?_
        refine fR rfl ?_
        refine Mid.elemMap rfl rfl rfl h1 rfl rfl ?_
        refine fM rfl ?_
        refine Mid.call (hdc) rfl rfl rfl rfl ?_
        refine fM rfl ?_
        refine Run.cond rfl rfl (fun hc => ?_) (fun hc => ?_)
        · simp only [lgR, hc, if_true] at hinv2
          refine fR rfl ?_
          refine Run.fin rfl (EndOk.go ?_); exact .t (by rw [← hinv2])
        · simp only [lgR, hc, Bool.false_eq_true, if_false] at hinv2
          refine fR rfl ?_
          refine Mid.elemMap rfl rfl rfl h1 rfl rfl ?_
          refine fM rfl ?_
          refine Mid.call (hcc) rfl rfl rfl rfl ?_
          refine p0 rfl ?_
          refine fM rfl ?_
          refine aL rfl rfl rfl rfl rfl ?_
          refine fM rfl ?_
          exact rWeak 1 rfl (ih (IntKind.i64.wrap (n2 + cntF 300 0 x.sels)) hinv2) rfl rfl rfl
    · intro i x r n h1 hi hd hinv ih
      have hxk := hq.o x (List.mem_of_getElem? h1)
      have hdc := deep_ok H 26 x.sels hxk.s
      have hcc := count_ok H 300 x.sels hxk.s
      unfold DeepC at hdc
      unfold CntC at hcc
      refine fR rfl ?_
      refine lM rfl rfl rfl ?_
      refine fM rfl ?_
      refine Run.condT rfl rfl (by simp; omega) ?_
      refine fR rfl ?_
      refine Mid.elemMap rfl rfl rfl h1 rfl rfl ?_
      refine fM rfl ?_
      refine Mid.call (hdc) rfl rfl rfl rfl ?_
      refine fM rfl ?_
      refine elG rfl rfl rfl rfl h1 rfl rfl ?_
      refine fM rfl ?_
      refine lMG rfl rfl rfl rfl ?_
      refine fM rfl ?_
      refine Run.cond rfl rfl (fun hc => ?_) (fun hc => ?_)
      · simp only [lgO, hc, if_true] at hinv
        refine fR rfl ?_
        refine Run.fin rfl (EndOk.go ?_); exact .t (by rw [← hinv])
      · simp only [lgO, hc, Bool.false_eq_true, if_false] at hinv
        refine fR rfl ?_
        refine Mid.elemMap rfl rfl rfl h1 rfl rfl ?_
        refine fM rfl ?_
        refine Mid.call (hcc) rfl rfl rfl rfl ?_
        refine p0 rfl ?_
        refine fM rfl ?_
        refine aL rfl rfl rfl rfl rfl ?_
        refine fM rfl ?_
        exact rWeak 1 rfl (ih (IntKind.i64.wrap (n + cntF 300 0 x.sels)) hinv) rfl rfl rfl
end Go.GB.C11


/-
  E13H: chapter 13's functions: right documents.
-/
namespace Go.GB.C11
open Go.GB
set_option linter.unusedSimpArgs false
set_option linter.unusedVariables false
set_option maxRecDepth 100000
set_option maxHeartbeats 4000000
variable {P : Program}

/- values -/
def szV (v : Val) : Int := v.items.attach.foldl (fun n x => IntKind.i64.wrap (n + szV x.1)) 1
termination_by SizeOf.sizeOf v
decreasing_by exact Val.size_items v x.2
def dpV (v : Val) : Int := IntKind.i64.wrap (v.items.attach.foldl (fun n x => if dpV x.1 > n then dpV x.1 else n) 0 + 1)
termination_by SizeOf.sizeOf v
decreasing_by all_goals exact Val.size_items v x.2
def twS : List Str → List Str → Bool
  | _, [] => false
  | p, s :: r => decide (s ∈ p) || twS (p ++ [s]) r
end Go.GB.C11


/-
  E13I: chapter 13's functions: right documents.
-/
namespace Go.GB.C11
open Go.GB
set_option linter.unusedSimpArgs false
set_option linter.unusedVariables false
set_option maxRecDepth 100000
set_option maxHeartbeats 4000000
variable {P : Program}

def nodeV (v : Val) (lit : Bool) : Bool :=
  if (v.kind == 0) = true then (((v.int == 0 && v.text == []) && (v.items.length : Int) == 0) && (v.keys.length : Int) == 0)
  else if (v.kind == 1) = true then ((((v.int == 0 || v.int == 1) && v.text == []) && (v.items.length : Int) == 0) && (v.keys.length : Int) == 0)
  else if (v.kind == 2) = true then ((v.text == [] && (v.items.length : Int) == 0) && (v.keys.length : Int) == 0)
  else if (v.kind == 3) = true then ((v.int == 0 && (v.items.length : Int) == 0) && (v.keys.length : Int) == 0)
  else if (v.kind == 4) = true then ((((((v.int == 0 && (v.items.length : Int) == 0) && (v.keys.length : Int) == 0) && nameF v.text) && v.text != [116, 114, 117, 101]) && v.text != [102, 97, 108, 115, 101]) && v.text != [110, 117, 108, 108])
  else if (v.kind == 5) = true then ((v.int == 0 && v.text == []) && (v.keys.length : Int) == 0)
  else if (v.kind == 6) = true then (((v.int == 0 && v.text == []) && (v.keys.length : Int) == (v.items.length : Int)) && !twS [] v.keys)
  else if (v.kind == 7) = true then ((((lit && v.int == 0) && (v.items.length : Int) == 0) && (v.keys.length : Int) == 0) && nameF v.text)
  else false
def whlV (lit : Bool) (v : Val) : Bool := nodeV v lit && (v.keys.all (fun k => !(lit && !nameF k)) && v.items.attach.all (fun x => whlV lit x.1))
termination_by SizeOf.sizeOf v
decreasing_by exact Val.size_items v x.2
def litV (v : Val) : Bool := (decide (szV v ≤ 4096) && decide (dpV v ≤ 24)) && whlV true v
end Go.GB.C11


/-
  E13J: chapter 13's functions: right documents.
-/
namespace Go.GB.C11
open Go.GB
set_option linter.unusedSimpArgs false
set_option linter.unusedVariables false
set_option maxRecDepth 100000
set_option maxHeartbeats 4000000
variable {P : Program}

end Go.GB.C11


/-
  E13K: the reference's Faces.
-/
namespace Go.GB.C11
open Go.GB
set_option linter.unusedSimpArgs false
set_option linter.unusedVariables false
set_option maxRecDepth 100000
set_option maxHeartbeats 4000000
variable {P : Program}

end Go.GB.C11


/-
  E13L: chapter 13's example; which documents are looked at.
-/
namespace Go.GB.C11
open Go.GB
set_option linter.unusedSimpArgs false
set_option linter.unusedVariables false
set_option maxRecDepth 100000
set_option maxHeartbeats 4000000
variable {P : Program}

def qF : Frag := ⟨[102], [81, 117, 101, 114, 121], [.mk 1 [] [97] [] [] [] []]⟩
def qSels : List Sel := [.mk 2 [] [102] [] [] [] [], .mk 2 [] [103] [] [] [] []]
def exQ : Query := ⟨[⟨1, [], [], qSels⟩], [qF]⟩
def exD : List Def := [⟨1, [81, 117, 101, 114, 121], [], [], [⟨[97], [], ⟨tInt, []⟩, []⟩], [], []⟩]
theorem qF_ok : qF.Ok := ⟨by decide, by decide, by decide, by intro x hx; simp [qF] at hx; subst hx; exact .mk (by decide) (by decide) (by decide) (by decide) (by decide) (by decide) (by simp) (by simp) (by simp)⟩
theorem qSels_ok : SelsOk qSels := by
  refine ⟨by decide, ?_⟩
  intro x hx
  simp [qSels] at hx
  rcases hx with rfl | rfl <;> exact .mk (by decide) (by decide) (by decide) (by decide) (by decide) (by decide) (by simp) (by simp) (by simp)
theorem exQ_ok : exQ.Ok := by
  refine ⟨by decide, ?_, by decide, ?_⟩
  · intro x hx; simp [exQ] at hx; subst hx; exact ⟨by decide, by decide, by simp, qSels_ok⟩
  · intro x hx; simp [exQ] at hx; subst hx; exact qF_ok
theorem exD_ok : DocOk exD := by
  refine ⟨by decide, ?_, by decide⟩
  intro d hd
  simp [exD] at hd
  subst hd
  exact ⟨by decide, by decide, by simp, by decide, by intro y hy; simp at hy; subst hy; exact ⟨by decide, by simp, ⟨by decide, by decide⟩, by decide, by simp, by decide⟩, by decide, by simp, by decide, by simp, by decide, by simp⟩
theorem ex13_w : wF exQ qSels = ([[102]], false) := by
  unfold wF
  simp [qSels, walkF, exQ, qF, findFrag, Sel.kind, Sel.name, Sel.sels]
theorem ex13_l : reachB exQ qSels = false := by unfold reachB; rw [ex13_w]; rfl
theorem ex13_k : compF exD [81, 117, 101, 114, 121] = true := by kernel_rfl
theorem ex13_o : ovF exD [81, 117, 101, 114, 121] [81, 117, 101, 114, 121] = true := by kernel_rfl
theorem ex13_f : findFrag [102] exQ.frags = some qF := by kernel_rfl
theorem ex13_g : findFrag [103] exQ.frags = none := by kernel_rfl
theorem ex13_lp : loopF exQ qF = false := by
  unfold loopF wF
  simp [qF, walkF, exQ, Sel.kind, Sel.sels]
theorem ex13_u : usedF exQ [102] = true := by
  unfold usedF
  show List.any [_] _ = true
  rw [List.any_cons, ex13_w]; rfl
theorem ex13_s1 : selF exD exQ qSels [81, 117, 101, 114, 121] [] = [⟨24, []⟩] := by
  unfold qSels
  rw [selF_spread rfl, selF_spread rfl, selF_nil]
  simp only [Sel.name]
  rw [ex13_f, ex13_g]
  simp [ifL, qF, apF, ex13_k, ex13_o, compF]
theorem ex13_s2 : selF exD exQ qF.sels qF.on qF.name = [] := by
  unfold qF
  rw [selF_field (by decide) (by decide), selF_nil]
  simp only [Sel.sels]
  rw [selF_nil]; rfl
theorem ex13_c : chkF exD exQ = [⟨24, []⟩] := by
  have e1 : opL exD exQ exQ.ops = [⟨24, []⟩] := by
    show selF exD exQ qSels [81, 117, 101, 114, 121] [] ++ [] = _
    rw [ex13_s1]; rfl
  have e2 : frL exD exQ exQ.frags = [] := by
    show ifL (!compF exD [81, 117, 101, 114, 121]) _ ++ ifL (loopF exQ qF) _ ++ ifL (!usedF exQ [102]) _ ++ selF exD exQ qF.sels qF.on qF.name ++ [] = _
    rw [ex13_k, ex13_lp, ex13_u, ex13_s2]; rfl
  unfold chkF
  rw [e1, e2]; rfl
theorem example13_ok (H : Pr13 P) : FnOk P 33 [] ⟨[], 0⟩ { v := .t (.bool true) } := by
  have h1 := reach_ok H exQ exQ_ok qSels qSels_ok
  rw [ex13_w, ex13_l] at h1
  have h2 := qfind_ok H exQ exQ_ok [102]
  rw [ex13_f] at h2
  have h3 := check13_ok H exD exD_ok exQ exQ_ok (by decide)
  rw [ex13_c] at h3
  have h4 := faults_ok H.toPr [⟨24, []⟩] [⟨24, []⟩] (by decide) (by decide)
  rw [decide_eq_true rfl] at h4
  refine FnOk.run H.i33 H.mixed rfl rfl ?_
  refine fR rfl ?_
  refine pu rfl ?_
  refine fM rfl ?_
  refine Mid.call (h1) rfl rfl rfl rfl ?_
  refine fM rfl ?_
  refine Mid.call (h2) rfl rfl rfl rfl ?_
  refine fM rfl ?_
  refine lM rfl rfl rfl ?_
  refine fM rfl ?_
  refine gr rfl ?_
  refine fM rfl ?_
  refine Mid.ungd rfl rfl rfl ?_
  refine Mid.call (h3) rfl rfl rfl rfl ?_
  refine fM rfl ?_
  refine Mid.ungd rfl rfl rfl ?_
  refine Mid.bslP rfl rfl rfl ?_
  skip
  refine Mid.ungd rfl rfl rfl ?_
  refine Mid.call (h4) rfl rfl rfl rfl ?_
  refine fM rfl ?_
  refine Run.fin rfl (EndOk.go ?_); exact .t rfl
end Go.GB.C11


/-
  E13M: plain laws of chapter 13.
-/
namespace Go.GB.C11
open Go.GB
set_option linter.unusedSimpArgs false
set_option linter.unusedVariables false
set_option maxRecDepth 100000
set_option maxHeartbeats 4000000

/- names of right schemas -/
/-- all fragments that selections name exist -/
def fouS (q : Query) : List Sel → Bool
  | [] => true
  | s :: r => (if s.kind = 2 then (findFrag s.name q.frags).isSome else fouS q s.sels) && fouS q r
termination_by l => SizeOf.sizeOf l
decreasing_by
  all_goals simp_wf
  all_goals (have := Sel.size_sels s; omega)
/- without violations -/
structure Clean (q : Query) : Prop where
  o : ∀ o, o ∈ q.ops → fouS q o.sels = true
  f : ∀ f, f ∈ q.frags → fouS q f.sels = true ∧ loopF q f = false ∧ usedF q f.name = true
/- one more fragment -/
/- sizes -/
end Go.GB.C11


/-
  D11X: plain law of AbstractFields.
-/
namespace Go.GB.C11
open Go.GB
set_option linter.unusedSimpArgs false
set_option linter.unusedVariables false
set_option maxRecDepth 100000
set_option maxHeartbeats 2000000

/- sizes -/
def wFd : List Field → Nat
  | [] => 0
  | f :: r => f.args.length + f.dirs.length + wFd r
def wD (d : Def) : Nat := 1 + d.fields.length + d.members.length + d.inputs.length + d.dirs.length + d.implements.length + wFd d.fields
def wDs : List Def → Nat
  | [] => 0
  | d :: r => wD d + wDs r
structure Small (ds : List Def) : Prop where
  l : ds.length ≤ 70
  w : wDs ds ≤ 1000
theorem wDs_mem : ∀ {ds : List Def} {d : Def}, d ∈ ds → wD d ≤ wDs ds
  | [], d, h => by cases h
  | x :: r, d, h => by
    simp only [wDs]
    rcases List.mem_cons.1 h with rfl | h
    · omega
    · have := wDs_mem h; omega
theorem Small.d {ds : List Def} (h : Small ds) {d : Def} (hd : d ∈ ds) : wD d ≤ 1000 := Nat.le_trans (wDs_mem hd) h.w

/- how many violations -/
/- what no violations mean -/
end Go.GB.C11


/-
  D11Y: chapter 11's law: Fields.
-/
namespace Go.GB.C11
open Go.GB
set_option linter.unusedSimpArgs false
set_option linter.unusedVariables false
set_option maxRecDepth 100000
set_option maxHeartbeats 2000000
variable {P : Program}

end Go.GB.C11


/-
  E13N: laws of chapter 13: fragments that are reached, violations.
-/
namespace Go.GB.C11
open Go.GB
set_option linter.unusedSimpArgs false
set_option linter.unusedVariables false
set_option maxRecDepth 100000
set_option maxHeartbeats 4000000
variable {P : Program}

theorem fragmentReaches_ok (H : Pr13 P) (q : Query) (hq : q.Ok) (nm : Str) : FnOk P 8 [q.v, .t (.str nm)] ⟨[], 0⟩ { v := .t (.bool true) } := by
  have hfl := hq.fl
  have hol := hq.ol
  refine FnOk.run H.i8 H.mixed rfl rfl ?_
  refine fR rfl ?_
  refine Mid.call (largeQ_ok H q hq) rfl rfl rfl rfl ?_
  refine fM rfl ?_
  refine Run.cond rfl rfl (fun hL => ?_) (fun hL => ?_)
  · refine fR rfl ?_
    refine Mid.call (example13_ok H) rfl rfl rfl rfl ?_
    refine fM rfl ?_
    refine Run.fin rfl (EndOk.go ?_); exact .t rfl
  · refine fR rfl ?_
    refine rList q.ops (fun i (_ : Unit) => { env := [(1, .t (.str nm)), (2, .ptr 0 0), (5, .t (.int .i64 i))], s := ⟨[(0, .cells [.t (.lst (q.ops.map Op.enc)), .t (.lst (q.frags.map Frag.enc))])], 1⟩ }) (fun r i _ => True) 1 () rfl trivial rfl rfl rfl ?_ ?_
    · intro _ _
      refine fR rfl ?_
      refine lM rfl rfl rfl ?_
      refine fM rfl ?_
      refine Run.condF rfl rfl (by simp) ?_
      refine fR rfl ?_
      refine rList q.frags (fun i (_ : Unit) => { env := [(1, .t (.str nm)), (2, .ptr 0 0), (10, .t (.int .i64 i))], s := ⟨[(0, .cells [.t (.lst (q.ops.map Op.enc)), .t (.lst (q.frags.map Frag.enc))])], 1⟩ }) (fun r i _ => True) 1 () rfl trivial rfl rfl rfl ?_ ?_
      · intro _ _
        refine fR rfl ?_
        refine lM rfl rfl rfl ?_
        refine fM rfl ?_
        refine Run.condF rfl rfl (by simp) ?_
        refine fR rfl ?_
        refine Mid.call (qfind_ok H q hq nm) rfl rfl rfl rfl ?_
        refine fM rfl ?_
        refine Mid.call (rqfind_ok H q hq nm) rfl rfl rfl rfl ?_
        refine fM rfl ?_
        refine lMG rfl rfl rfl rfl ?_
        refine fM rfl ?_
        refine lMG rfl rfl rfl rfl ?_
        refine fM rfl ?_
        generalize (findFrag nm q.frags).getD Frag.zero = f
        generalize (findFrag nm q.frags).isSome = ok
        refine caG rfl rfl (fun hg => ⟨_, rfl, example13_ok H, rfl⟩) rfl rfl ?_
        refine fM rfl ?_
        refine Run.fin rfl (EndOk.go ?_); exact .t (by simp)
      · intro i x r _ h1 hi hd _ ih
        have hx := hq.f x (List.mem_of_getElem? h1)
        have hw := wF_len q x.sels
        have hs := same13_ok H (wF q x.sels).1 (wF q x.sels).1 (by omega) (by omega)
        rw [decide_eq_true rfl] at hs
        refine fR rfl ?_
        refine lM rfl rfl rfl ?_
        refine fM rfl ?_
        refine Run.condT rfl rfl (by simp; omega) ?_
        refine fR rfl ?_
        refine Mid.elemMap rfl rfl rfl h1 rfl rfl ?_
        refine fM rfl ?_
        refine Mid.call (reach_ok H q hq x.sels hx.s) rfl rfl rfl rfl ?_
        refine fM rfl ?_
        refine Mid.elemMap rfl rfl rfl h1 rfl rfl ?_
        refine fM rfl ?_
        refine Mid.call (rReach_ok H q hq x.sels hx.s) rfl rfl rfl rfl ?_
        refine fM rfl ?_
        refine Mid.call (hs) rfl rfl rfl rfl ?_
        refine fM rfl ?_
        refine Run.condF rfl rfl (by simp) ?_
        refine fR rfl ?_
        refine aL rfl rfl rfl rfl rfl ?_
        refine fM rfl ?_
        exact rWeak 1 rfl (ih () trivial) rfl rfl rfl
    · intro i x r _ h1 hi hd _ ih
      have hx := hq.o x (List.mem_of_getElem? h1)
      have hw := wF_len q x.sels
      have hs := same13_ok H (wF q x.sels).1 (wF q x.sels).1 (by omega) (by omega)
      rw [decide_eq_true rfl] at hs
      refine fR rfl ?_
      refine lM rfl rfl rfl ?_
      refine fM rfl ?_
      refine Run.condT rfl rfl (by simp; omega) ?_
      refine fR rfl ?_
      refine Mid.elemMap rfl rfl rfl h1 rfl rfl ?_
      refine fM rfl ?_
      refine Mid.call (reach_ok H q hq x.sels hx.s) rfl rfl rfl rfl ?_
      refine fM rfl ?_
      refine Mid.elemMap rfl rfl rfl h1 rfl rfl ?_
      refine fM rfl ?_
      refine Mid.call (rReach_ok H q hq x.sels hx.s) rfl rfl rfl rfl ?_
      refine fM rfl ?_
      refine Mid.call (hs) rfl rfl rfl rfl ?_
      refine fM rfl ?_
      refine Run.condF rfl rfl (by simp) ?_
      refine fR rfl ?_
      refine aL rfl rfl rfl rfl rfl ?_
      refine fM rfl ?_
      exact rWeak 1 rfl (ih () trivial) rfl rfl rfl
/-- what the laws on violations are handed -/
structure Sm13 (ds : List Def) (q : Query) : Prop where
  d : bulkLL (ds.map Def.enc) ≤ 1048576
  w : opsW q.ops + frW q.frags ≤ 1048576
def oldU (q : Query) (i : Nat) (f : Frag) : Bool := (q.ops.take i).any fun o => decide (f.name ∈ (wF q o.sels).1)
structure UOk (q : Query) (U : List Bool) (v : Nat → Frag → Bool) : Prop where
  len : U.length = q.frags.length
  at_ : ∀ m f, q.frags[m]? = some f → U[m]? = some (v m f)
theorem UOk.start (q : Query) : UOk q ((List.replicate q.frags.length [false]).flatten) (fun _ f => oldU q 0 f) := by
  rw [List.flatten_replicate_singleton]
  refine ⟨by simp, fun m f hm => ?_⟩
  have := (List.getElem?_eq_some_iff.1 hm).1
  rw [List.getElem?_replicate, if_pos this]
  simp [oldU]
end Go.GB.C11


/-
  E13O: chapter 13's law: one more fragment.
-/
namespace Go.GB.C11
open Go.GB
set_option linter.unusedSimpArgs false
set_option linter.unusedVariables false
set_option maxRecDepth 100000
set_option maxHeartbeats 4000000
variable {P : Program}

end Go.GB.C11


/-
  GbSh: what a law is handed, of package api's types.
-/
namespace Go.GB
open Go.RowKit
set_option linter.unusedSimpArgs false
set_option linter.unusedVariables false

def valSh : List Sh := [.int .i64, .int .i64, .str, .num 0, .lst 16 [.str]]
def argSh : List Sh := .str :: valSh
def dirSh : List Sh := [.str, .lst 96 argSh]
def refSh : List Sh := [.str, .lst 8 [.int .i64]]
/-- lists of types that contain themselves -/
def YA : Nat → T → Prop
  | 0, x => ∃ l : List Val, x = .lst (l.map Val.enc) ∧ l.length * 80 ≤ B47 ∧ ∀ v ∈ l, v.Ok
  | _, x => ∃ l : List Pick, x = .lst (l.map Pick.enc) ∧ l.length * 160 ≤ B47 ∧ ∀ p ∈ l, p.Ok ∧ p.on.length ≤ maxLen

theorem reach_le : reachBytes ≤ 140737488355328 := by decide
theorem strs_of {Y : Nat → T → Prop} {x : T} {b : Nat} (h : (Sh.lst b [.str]).ok Y x) : ∃ l : List Str, x = .lst (l.map sE) ∧ l.length * b ≤ reachBytes ∧ ∀ s ∈ l, s.length ≤ reachBytes := by
  obtain ⟨xs, rfl, h1, _, h2⟩ := h
  obtain ⟨l, rfl, h3⟩ := choose_map (f := sE) (Q := fun s => s.length ≤ reachBytes) xs fun c hc => by
    obtain ⟨x, r, rfl, ⟨s, rfl, hs⟩, h⟩ := Sh.oks_cons (h2 c hc)
    obtain rfl := Sh.oks_nil h
    exact ⟨s, rfl, hs⟩
  exact ⟨l, rfl, by simpa using h1, h3⟩
theorem nums_of {Y : Nat → T → Prop} {x : T} {b : Nat} (h : (Sh.lst b [.int .i64]).ok Y x) : ∃ l : List Int, x = .lst (l.map nE) ∧ l.length * b ≤ reachBytes := by
  obtain ⟨xs, rfl, h1, _, h2⟩ := h
  obtain ⟨l, rfl, h3⟩ := choose_map (f := nE) (Q := fun _ => True) xs fun c hc => by
    obtain ⟨x, r, rfl, ⟨s, rfl, hs⟩, h⟩ := Sh.oks_cons (h2 c hc)
    obtain rfl := Sh.oks_nil h
    exact ⟨s, rfl, trivial⟩
  exact ⟨l, rfl, by simpa using h1⟩
theorem list_of {α : Type} {f : α → List T} {Q : α → Prop} {Y : Nat → T → Prop} {x : T} {b : Nat} {sh : List Sh} (hf : ∀ c, Sh.oks Y sh c → ∃ a, c = f a ∧ Q a) (h : (Sh.lst b sh).ok Y x) : ∃ l : List α, x = .lst (l.map f) ∧ l.length * b ≤ reachBytes ∧ l.length ≤ maxLen ∧ ∀ a ∈ l, Q a := by
  obtain ⟨xs, rfl, h1, h0, h2⟩ := h
  obtain ⟨l, rfl, h3⟩ := choose_map (f := f) (Q := Q) xs fun c hc => hf c (h2 c hc)
  exact ⟨l, rfl, by simpa using h1, by simpa using h0, h3⟩

/-- the shape of a value -/
theorem val_sh {r : List Sh} {c : List T} (h : Sh.oks YA (valSh ++ r) c) : ∃ (v : Val) (c' : List T), c = v.cs ++ c' ∧ v.Ok ∧ Sh.oks YA r c' := by
  obtain ⟨x1, c, rfl, ⟨k, rfl, _⟩, g1⟩ := Sh.oks_cons h
  obtain ⟨x2, c, rfl, ⟨i, rfl, _⟩, g2⟩ := Sh.oks_cons g1
  obtain ⟨x3, c, rfl, ⟨t, rfl, ht⟩, g3⟩ := Sh.oks_cons g2
  obtain ⟨x4, c, rfl, ⟨its, rfl, hi1, hi2⟩, g4⟩ := Sh.oks_cons g3
  obtain ⟨x5, c, rfl, hk, g5⟩ := Sh.oks_cons g4
  obtain ⟨ks, rfl, hk1, hk2⟩ := strs_of hk
  have := reach_le
  refine ⟨.mk k i t its ks, c, rfl, .mk hi1 (by unfold B47; omega) hi2 (by omega) (fun x hx => by have := hk2 x hx; omega), g5⟩
theorem val_sh0 {c : List T} (h : Sh.oks YA valSh c) : ∃ v : Val, c = v.enc ∧ v.Ok := by
  obtain ⟨v, c', rfl, h1, h2⟩ := val_sh (r := []) (by simpa using h)
  obtain rfl := Sh.oks_nil h2
  exact ⟨v, by rw [Val.enc_eq, List.append_nil], h1⟩
theorem ref_sh {r : List Sh} {c : List T} (h : Sh.oks YA (refSh ++ r) c) : ∃ (v : Ref) (c' : List T), c = .str v.name :: .lst (v.wraps.map nE) :: c' ∧ v.Ok ∧ Sh.oks YA r c' := by
  have := reach_le
  obtain ⟨x1, c, rfl, ⟨n, rfl, hn⟩, g1⟩ := Sh.oks_cons h
  obtain ⟨x5, c, rfl, hk, g2⟩ := Sh.oks_cons g1
  obtain ⟨ks, rfl, hk1⟩ := nums_of hk
  exact ⟨⟨n, ks⟩, c, rfl, ⟨by show ks.length * 8 ≤ _; omega, by show n.length ≤ _; omega⟩, g2⟩
/-- the types that contain themselves -/
def spV (vt : TypeId) (e : TypeId) : Option Nat := if e = vt then some 0 else none
theorem val_wt {P : Program} {vt : TypeId} (hb : P.bytesOf vt = 80) (hs : shOf P (spV vt) 6 vt = some valSh) : ∀ (n : Nat) (c : List T), WT P n vt c → ∃ v : Val, c = v.enc ∧ v.Ok := by
  intro n
  induction n using Nat.strongRecOn with
  | _ n ih =>
    intro c h
    refine val_sh0 (shOf_ok (Y := YA) n 6 vt valSh c (fun e i k xs hk he hr hl hc => ?_) hs h)
    unfold spV at he
    split at he
    · rename_i e1; subst e1
      simp only [Option.some.injEq] at he; subst he
      obtain ⟨l, rfl, h3⟩ := choose_map (f := Val.enc) (Q := Val.Ok) xs fun c hcm => ih k hk c (hc c hcm)
      have := reach_le
      rw [hb] at hr
      exact ⟨l, rfl, by unfold B47; simp at hr; omega, h3⟩
    · cases he
end Go.GB


/-
  D11R: shapes of chapter 11's arguments.
-/
namespace Go.GB.C11
open Go.GB

end Go.GB.C11


/-
  E13P: shapes of documents, as laws are handed them.
-/
namespace Go.GB
open Go.RowKit
set_option linter.unusedSimpArgs false
set_option linter.unusedVariables false

mutual
def Sh.low : Sh → Bool
  | .num i => i == 0
  | .lst _ s => Sh.lows s
  | _ => true
def Sh.lows : List Sh → Bool
  | [] => true
  | s :: r => s.low && Sh.lows r
end
mutual
theorem Sh.ok_mono {Y Z : Nat → T → Prop} (h : ∀ x, Y 0 x → Z 0 x) : ∀ (s : Sh) (x : T), s.low = true → s.ok Y x → s.ok Z x
  | .num i, x, hl, hx => by
    simp only [Sh.low, beq_iff_eq] at hl
    subst hl
    exact h x hx
  | .lst b s, x, hl, hx => by
    obtain ⟨xs, h1, h2, h3, h4⟩ := hx
    exact ⟨xs, h1, h2, h3, fun c hc => Sh.oks_mono h s c (by simpa [Sh.low] using hl) (h4 c hc)⟩
  | .int k, x, hl, hx => hx
  | .str, x, hl, hx => hx
  | .bool, x, hl, hx => hx
  | .any, x, hl, hx => hx
theorem Sh.oks_mono {Y Z : Nat → T → Prop} (h : ∀ x, Y 0 x → Z 0 x) : ∀ (s : List Sh) (c : List T), Sh.lows s = true → Sh.oks Y s c → Sh.oks Z s c
  | [], [], _, _ => trivial
  | [], x :: c, _, hx => by simp [Sh.oks] at hx
  | s :: r, [], _, hx => by simp [Sh.oks] at hx
  | s :: r, x :: c, hl, hx => by
    simp only [Sh.lows, Bool.and_eq_true] at hl
    simp only [Sh.oks] at hx ⊢
    exact ⟨Sh.ok_mono h s x hl.1 hx.1, Sh.oks_mono h r c hl.2 hx.2⟩
end
/-- lists of values, lists of selections -/
def YS : Nat → T → Prop
  | 0, x => YA 0 x
  | _, x => ∃ l : List Sel, x = .lst (l.map Sel.enc) ∧ l.length * 128 ≤ B47 ∧ ∀ v ∈ l, v.Ok
def selSh : List Sh := [.int .i64, .str, .str, .str, .lst 96 argSh, .lst 40 dirSh, .num 1]
def varSh : List Sh := [.str] ++ refSh ++ [.bool] ++ valSh
def opSh : List Sh := [.int .i64, .str, .lst 144 varSh, .num 1]
def fragSh : List Sh := [.str, .str, .num 1]
def querySh : List Sh := [.lst 72 opSh, .lst 56 fragSh]
theorem YS.low {x : T} (h : YS 0 x) : YA 0 x := h
theorem argN_sh {c : List T} (h : Sh.oks YA argSh c) : ∃ a : Arg, c = a.enc ∧ (a.Ok ∧ a.name.length ≤ 140737488355328) := by
  have := reach_le
  obtain ⟨x, c, rfl, ⟨n, rfl, hn⟩, g1⟩ := Sh.oks_cons h
  obtain ⟨v, c', rfl, h1, h2⟩ := val_sh (r := []) (by simpa using g1)
  obtain rfl := Sh.oks_nil h2
  exact ⟨⟨n, v⟩, by simp [Arg.enc, Val.cs], h1, by show n.length ≤ _; omega⟩
theorem dirN_sh {c : List T} (h : Sh.oks YA dirSh c) : ∃ a : Dir, c = a.enc ∧ (a.Ok ∧ ∀ y, y ∈ a.args → y.name.length ≤ 140737488355328) := by
  have := reach_le
  obtain ⟨x, c, rfl, ⟨n, rfl, hn⟩, g1⟩ := Sh.oks_cons h
  obtain ⟨x, c, rfl, hx, g2⟩ := Sh.oks_cons g1
  obtain rfl := Sh.oks_nil g2
  obtain ⟨l, rfl, h1, _, h2⟩ := list_of (fun c hc => argN_sh hc) hx
  exact ⟨⟨n, l⟩, rfl, ⟨by show l.length ≤ _; omega, fun y hy => (h2 y hy).1, by show n.length ≤ _; omega⟩, fun y hy => (h2 y hy).2⟩
theorem sel_sh {c : List T} (h : Sh.oks YS selSh c) : ∃ s : Sel, c = s.enc ∧ s.Ok := by
  have := reach_le
  obtain ⟨x, c, rfl, ⟨k, rfl, _⟩, g1⟩ := Sh.oks_cons h
  obtain ⟨x, c, rfl, ⟨al, rfl, h1⟩, g2⟩ := Sh.oks_cons g1
  obtain ⟨x, c, rfl, ⟨n, rfl, h2⟩, g3⟩ := Sh.oks_cons g2
  obtain ⟨x, c, rfl, ⟨o, rfl, h3⟩, g4⟩ := Sh.oks_cons g3
  obtain ⟨x, c, rfl, hx, g5⟩ := Sh.oks_cons g4
  obtain ⟨as, rfl, a1, _, a2⟩ := list_of (fun c hc => argN_sh hc) (Sh.ok_mono (Y := YS) (Z := YA) (fun _ h => h) _ _ (by decide) hx)
  obtain ⟨x, c, rfl, hx, g6⟩ := Sh.oks_cons g5
  obtain ⟨ds, rfl, d1, _, d2⟩ := list_of (fun c hc => dirN_sh hc) (Sh.ok_mono (Y := YS) (Z := YA) (fun _ h => h) _ _ (by decide) hx)
  obtain ⟨x, c, rfl, ⟨ss, rfl, s1, s2⟩, g7⟩ := Sh.oks_cons g6
  obtain rfl := Sh.oks_nil g7
  exact ⟨.mk k al n o as ds ss, by rw [Sel.enc_eq]; rfl, .mk (by omega) (by omega) (by omega) (by unfold B47; omega) (by omega) s1 a2 d2 s2⟩
def spS (vt st : TypeId) (e : TypeId) : Option Nat := if e = vt then some 0 else if e = st then some 1 else none
theorem sel_wt {P : Program} {vt st : TypeId} (hb : P.bytesOf vt = 80) (hs : shOf P (spV vt) 6 vt = some valSh) (hbs : P.bytesOf st = 128) (hss : shOf P (spS vt st) 12 st = some selSh) : ∀ (n : Nat) (c : List T), WT P n st c → ∃ s : Sel, c = s.enc ∧ s.Ok := by
  have hv := val_wt hb hs
  intro n
  induction n using Nat.strongRecOn with
  | _ n ih =>
    intro c h
    refine sel_sh (shOf_ok (Y := YS) n 12 st selSh c (fun e i k xs hk he hr hl hc => ?_) hss h)
    have := reach_le
    unfold spS at he
    split at he
    · rename_i e1; subst e1
      simp only [Option.some.injEq] at he; subst he
      obtain ⟨l, rfl, h3⟩ := choose_map (f := Val.enc) (Q := Val.Ok) xs fun c hcm => hv k c (hc c hcm)
      rw [hb] at hr
      exact ⟨l, rfl, by unfold B47; simp at hr; omega, h3⟩
    · split at he
      · rename_i _ e1; subst e1
        simp only [Option.some.injEq] at he; subst he
        obtain ⟨l, rfl, h3⟩ := choose_map (f := Sel.enc) (Q := Sel.Ok) xs fun c hcm => ih k hk c (hc c hcm)
        rw [hbs] at hr
        exact ⟨l, rfl, by unfold B47; simp at hr; omega, h3⟩
      · cases he
theorem spS_ok {P : Program} {vt st : TypeId} (hb : P.bytesOf vt = 80) (hs : shOf P (spV vt) 6 vt = some valSh) (hbs : P.bytesOf st = 128) (hss : shOf P (spS vt st) 12 st = some selSh) :
    ∀ e i n xs, spS vt st e = some i → xs.length * P.bytesOf e ≤ reachBytes → xs.length ≤ maxLen → (∀ c ∈ xs, WT P n e c) → YS i (.lst xs) := by
  have hv := val_wt hb hs
  have hp := sel_wt hb hs hbs hss
  intro e i k xs he hr hl hc
  have := reach_le
  unfold spS at he
  split at he
  · rename_i e1; subst e1
    simp only [Option.some.injEq] at he; subst he
    obtain ⟨l, rfl, h3⟩ := choose_map (f := Val.enc) (Q := Val.Ok) xs fun c hcm => hv k c (hc c hcm)
    rw [hb] at hr
    exact ⟨l, rfl, by unfold B47; simp at hr; omega, h3⟩
  · split at he
    · rename_i _ e1; subst e1
      simp only [Option.some.injEq] at he; subst he
      obtain ⟨l, rfl, h3⟩ := choose_map (f := Sel.enc) (Q := Sel.Ok) xs fun c hcm => hp k c (hc c hcm)
      rw [hbs] at hr
      exact ⟨l, rfl, by unfold B47; simp at hr; omega, h3⟩
    · cases he
theorem var_sh {c : List T} (h : Sh.oks YA varSh c) : ∃ a : Var, c = a.enc ∧ a.Ok := by
  have := reach_le
  obtain ⟨x, c, rfl, ⟨n, rfl, hn⟩, g1⟩ := Sh.oks_cons h
  obtain ⟨t, c, rfl, ht, g2⟩ := ref_sh g1
  obtain ⟨x, c, rfl, ⟨b, rfl⟩, g3⟩ := Sh.oks_cons g2
  obtain ⟨v, c, rfl, hv, g4⟩ := val_sh (r := []) (by simpa using g3)
  obtain rfl := Sh.oks_nil g4
  exact ⟨⟨n, t, b, v⟩, by simp [Var.enc, Val.cs], ⟨by show n.length ≤ _; omega, ht, hv⟩⟩
theorem op_sh {c : List T} (h : Sh.oks YS opSh c) : ∃ a : Op, c = a.enc ∧ a.Ok := by
  have := reach_le
  obtain ⟨x, c, rfl, ⟨k, rfl, _⟩, g1⟩ := Sh.oks_cons h
  obtain ⟨x, c, rfl, ⟨n, rfl, h1⟩, g2⟩ := Sh.oks_cons g1
  obtain ⟨x, c, rfl, hx, g3⟩ := Sh.oks_cons g2
  obtain ⟨vs, rfl, v1, _, v2⟩ := list_of (fun c hc => var_sh hc) (Sh.ok_mono (Y := YS) (Z := YA) (fun _ h => h) _ _ (by decide) hx)
  obtain ⟨x, c, rfl, ⟨ss, rfl, s1, s2⟩, g4⟩ := Sh.oks_cons g3
  obtain rfl := Sh.oks_nil g4
  unfold B47 at s1
  exact ⟨⟨k, n, vs, ss⟩, rfl, ⟨by show n.length ≤ _; omega, by show vs.length ≤ _; omega, v2, s1, s2⟩⟩
theorem frag_sh {c : List T} (h : Sh.oks YS fragSh c) : ∃ a : Frag, c = a.enc ∧ a.Ok := by
  have := reach_le
  obtain ⟨x, c, rfl, ⟨n, rfl, h1⟩, g2⟩ := Sh.oks_cons h
  obtain ⟨x, c, rfl, ⟨o, rfl, h2⟩, g3⟩ := Sh.oks_cons g2
  obtain ⟨x, c, rfl, ⟨ss, rfl, s1, s2⟩, g4⟩ := Sh.oks_cons g3
  obtain rfl := Sh.oks_nil g4
  unfold B47 at s1
  exact ⟨⟨n, o, ss⟩, rfl, ⟨by show n.length ≤ _; omega, by show o.length ≤ _; omega, s1, s2⟩⟩
theorem query_sh {r : List Sh} {c : List T} (h : Sh.oks YS (querySh ++ r) c) : ∃ (q : Query) (c' : List T), c = .lst (q.ops.map Op.enc) :: .lst (q.frags.map Frag.enc) :: c' ∧ q.Ok ∧ Sh.oks YS r c' := by
  have := reach_le
  obtain ⟨x, c, rfl, hx, g1⟩ := Sh.oks_cons h
  obtain ⟨os, rfl, o1, _, o2⟩ := list_of (fun c hc => op_sh hc) hx
  obtain ⟨x, c, rfl, hx, g2⟩ := Sh.oks_cons g1
  obtain ⟨fs, rfl, f1, _, f2⟩ := list_of (fun c hc => frag_sh hc) hx
  exact ⟨⟨os, fs⟩, c, rfl, ⟨by show os.length ≤ _; omega, o2, by show fs.length * 56 ≤ _; omega, f2⟩, g2⟩
theorem query_sh0 {c : List T} (h : Sh.oks YS querySh c) : ∃ q : Query, c = [.lst (q.ops.map Op.enc), .lst (q.frags.map Frag.enc)] ∧ q.Ok := by
  obtain ⟨q, c', rfl, h1, h2⟩ := query_sh (r := []) h
  obtain rfl := Sh.oks_nil h2
  exact ⟨q, rfl, h1⟩
theorem strS_sh0 {c : List T} (h : Sh.oks YS [.str] c) : ∃ s : Str, c = [.str s] ∧ s.length ≤ 140737488355328 := by
  have := reach_le
  obtain ⟨x, c, rfl, ⟨s, rfl, hs⟩, g⟩ := Sh.oks_cons h
  obtain rfl := Sh.oks_nil g
  exact ⟨s, rfl, by omega⟩
end Go.GB


/-
  GbZH: a law's statement with the bound on its arguments' sizes.
-/
namespace Go.GB
open Go.RowKit Go.WideShapes Go.ChangeShapes
theorem handed {H : Type} {enc : TypeId × Value → H} {a : Assume} {C : Checked} {os : Os} {f : FuncId} {fn : Func} {s : ChangeSpec} {conds : List PathCond} {apart fresh handsOn again : Bool}
    (own : ownKnob C.prog.godebug = none) (started : os.Started) (noInit : C.prog.inits.idxOf? f = none) (hfn : C.prog.funcs[f]? = some fn)
    (witness : ∃ (w : World) (tape : Tape) (i : Go.Input), w.os = os ∧ (w.forCall tape i).Shaped C.prog ∧ i.vars = [] ∧ Go.Input.okWide C.prog (w.forCall tape i) .any w.heap.size f i ∧
      s.pre6 enc C.prog fn conds apart (w.forCall tape i).memory i.args ∧ a.holds C.prog (lone (Frame.enter C.prog f i.args .normal) [] (w.forCall tape i)))
    (contract : ∀ (W : World) (base : Nat) (args : Array Value) (ds gs : List (DataW H)) (before : List MemPlace),
      (∀ (j : Nat) t v, fn.params[j]? = some t → args[j]? = some v → Value.okWide C.prog W .any base t v) →
      DataW.Whole enc C.prog fn.params.toList s.vars apart W args.toList ds gs before →
      (DataW.weightsEach C.prog (fn.params.toList ++ s.plain.varTypes C.prog) (ds ++ gs)).all (· ≤ reachBytes) = true →
      Calls C.prog f args W fun e W' => ∃ v, e = .returned v ∧ s.post enc C.prog fn apart fresh handsOn again W args v W') :
    ReturnsInHanded a C os f .any (s.pre6 enc C.prog fn conds apart) (s.post enc C.prog fn apart fresh handsOn again) := by
  have e : (fun (w : World) (args : Array Value) => (s.pre enc C.prog fn conds apart w args ∧ True) ∧ sizedMet enc C.prog fn (OpenSpec.ofChange s) apart w args) = s.pre6 enc C.prog fn conds apart := by
    funext w args; simp only [and_true]; rfl
  rw [← e]
  obtain ⟨w, tape, i, h1, h2, h3, h4, h5, h6⟩ := witness
  exact returnsInHanded_of_change_and (X := fun _ _ => True) (fun _ _ _ _ _ => trivial) own started noInit hfn ⟨w, tape, i, h1, h2, h3, h4, ⟨⟨h5.1, trivial⟩, h5.2⟩, h6⟩ (fun W base args ds gs before a1 a2 _ a4 _ _ => contract W base args ds gs before a1 a2 a4)
end Go.GB

