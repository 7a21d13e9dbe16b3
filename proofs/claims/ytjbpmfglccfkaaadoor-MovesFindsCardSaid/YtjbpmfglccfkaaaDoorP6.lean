/-
  YtjbpmfglccfkaaaDoorP6: lemmas of this proof (part 6). No conditions.
-/
import Derived.Test.YtjbpmfglccfkaaaDoorP5
import Derived.KernelRfl
import Derived.Test.YtjbpmfglccfkaaaDoorP4

/-
  F23D: chapter 23's functions: sets of fields.
-/
namespace Go.GB.C23
open Go.GB Go.GB.C11
set_option linter.unusedSimpArgs false
set_option linter.unusedVariables false
set_option maxRecDepth 100000
set_option maxHeartbeats 2000000
variable {P : Program}

theorem idx_split : ∀ {s : Str}, 0 < s.count 32 → ∃ m : Nat, Go.Lib.indexByte s 32 = m ∧ m < s.length ∧ ¬ (32 : UInt8) ∈ s.take m ∧ s = s.take m ++ 32 :: s.drop (m + 1)
  | [], h => by simp at h
  | c :: r, h => by
    by_cases hc : c = 32
    · subst hc
      exact ⟨0, by simp [Go.Lib.indexByte], by simp, by simp, by simp⟩
    · have h1 : 0 < r.count 32 := by
        rw [List.count_cons_of_ne (fun e => hc e)] at h; exact h
      obtain ⟨m, h2, h3, h4, h5⟩ := idx_split h1
      refine ⟨m + 1, ?_, by simp; omega, ?_, ?_⟩
      · unfold Go.Lib.indexByte
        have hb : (c == 32) = false := by simpa using hc
        rw [hb, h2]
        simp
      · simp only [List.take_succ_cons, List.mem_cons, not_or]
        exact ⟨fun e => hc e.symm, h4⟩
      · simp only [List.take_succ_cons, List.drop_succ_cons, List.cons_append]
        rw [← h5]
theorem count_app (a b : Str) (h : ¬ (32 : UInt8) ∈ a) : (a ++ 32 :: b).count 32 = b.count 32 + 1 := by
  rw [List.count_append, List.count_eq_zero_of_not_mem h]; simp
/-- the state of the splitting -/
structure SpOk (s : Str) (n i : Nat) (r : Str) (A : List Str) : Prop where
  len : A.length = n + 1
  cnt : i + r.count 32 = n
  eq : splS s = A.take i ++ splS r
  le : r.length ≤ s.length
theorem set_take' {α : Type} (A : List α) (i : Nat) (x : α) (h : i < A.length) : (A.set i x).take (i + 1) = A.take i ++ [x] := by
  rw [List.take_add_one, List.getElem?_set_self h, List.take_set_of_le (Nat.le_refl i)]; rfl
theorem genSplit_ok (H : Pr23 P) (s : Str) (hs : s.length ≤ 140737488355328) (hc : s.count 32 < 8796093022208) : FnOk P 69 [.t (.str s), .t (.str [32]), .t (.int .i64 0), .t (.int .i64 (-1))] ⟨[], 0⟩ { v := .t (.lst ((splS s).map sE)) } := by
  have hcl : s.count 32 ≤ s.length := List.count_le_length
  refine FnOk.run H.i69 H.mixed rfl rfl ?_
  refine fR rfl ?_
  refine Run.condF rfl rfl rfl ?_
  refine fR rfl ?_
  refine Run.condF rfl rfl rfl ?_
  refine fR rfl ?_
  refine Run.condT rfl rfl rfl ?_
  refine fR rfl ?_
  refine Mid.call (count_ok H s hs) rfl rfl rfl rfl ?_
  refine aL rfl rfl rfl rfl rfl ?_
  refine fM rfl ?_
  refine aL rfl rfl rfl rfl rfl ?_
  refine fM rfl ?_
  have e : (if ((s.length + 1 : Nat) : Int) < ((s.count 32 + 1 : Nat) : Int) then ((s.length + 1 : Nat) : Int) else ((s.count 32 + 1 : Nat) : Int)) = ((s.count 32 + 1 : Nat) : Int) := by rw [if_neg (by omega)]
  rw [e]
  refine Mid.makeE [([] : Str)] (ev := T.str) rfl (by omega) (by omega) rfl rfl rfl ?_
  refine fM rfl ?_
  refine s64 rfl rfl rfl ?_
  refine fM rfl ?_
  generalize hn : s.count 32 = n at hc hcl
  refine rLoopM (β := Nat × Str × List Str) (fun b => { env := [(0, .t (.str b.2.1)), (1, .t (.str [32])), (2, .t (.int .i64 0)), (3, .t (.int .i64 n)), (9, .slc 0 0 (n + 1) 1), (10, .t (.int .i64 b.1))], s := ⟨[(0, .cells (cE T.str b.2.2))], 1⟩ })
    (fun b => SpOk s n b.1 b.2.1 b.2.2) (fun b => n - b.1) 1 (0, s, (List.replicate (n + 1) [([] : Str)]).flatten) rfl ⟨by simp, by simp [hn], by simp, Nat.le_refl _⟩ rfl rfl rfl ?_
  rintro ⟨i, r, A⟩ hinv ih
  have hA := hinv.len
  have hcn := hinv.cnt
  have heq := hinv.eq
  have hle := hinv.le
  simp only at hA hcn heq hle
  by_cases hi : i < n
  · obtain ⟨m, h1, h2, h3, h4⟩ := idx_split (s := r) (by omega)
    have hix := index_ok H r (by omega)
    rw [h1] at hix
    refine fR rfl ?_
    refine Run.condT rfl rfl (by simp; omega) ?_
    refine fR rfl ?_
    refine Mid.call (hix) rfl rfl rfl rfl ?_
    refine fM rfl ?_
    refine Run.condF rfl rfl (by simp) ?_
    refine fR rfl ?_
    refine aL rfl rfl rfl rfl rfl ?_
    refine pu rfl ?_
    refine Mid.iaS rfl rfl (by omega) rfl ?_
    refine Mid.stE rfl rfl ((by simp only; omega)) rfl rfl ?_
    refine fM rfl ?_
    refine aL rfl rfl rfl rfl rfl ?_
    refine pu rfl ?_
    refine fM rfl ?_
    refine aL rfl rfl rfl rfl rfl ?_
    refine fM rfl ?_
    have hc2 : r.count 32 = (r.drop (m + 1)).count 32 + 1 := by
      have := count_app (r.take m) (r.drop (m + 1)) h3
      rw [← h4] at this; exact this
    have hs2 : splS r = r.take m :: splS (r.drop (m + 1)) := by
      have := splS_app (a := r.take m) (b := r.drop (m + 1)) h3
      rw [← h4] at this; exact this
    exact rWeak 1 rfl (ih (i + 1, r.drop (m + 1), A.set i (r.take m)) (by simp only; omega) ⟨by simp only [List.length_set]; exact hA, by simp only; omega, by
      simp only
      rw [set_take' _ _ _ (by omega), heq, hs2, List.append_assoc]; rfl, by simp only [List.length_drop]; omega⟩) rfl rfl rfl
  · have hin : i = n := by omega
    subst hin
    have hc0 : r.count 32 = 0 := by omega
    have hs2 : splS r = [r] := splS_none (List.count_eq_zero.1 hc0)
    refine fR rfl ?_
    refine Run.condF rfl rfl (by simp) ?_
    refine fR rfl ?_
    refine Mid.iaS rfl rfl (by omega) rfl ?_
    refine Mid.stE rfl rfl ((by simp only; omega)) rfl rfl ?_
    refine fM rfl ?_
    refine aL rfl rfl rfl rfl rfl ?_
    refine pu rfl ?_
    refine fM rfl ?_
    refine Run.fin rfl (EndOk.chg rfl rfl ?_ ?_)
    · have hl : splS s = A.set i r := by
        rw [heq, hs2, ← set_take' _ _ _ (by omega), List.take_of_length_le (by rw [List.length_set]; omega)]
      rw [hl, show A.set i r = A.set (0 + i * 1) r by rw [Nat.zero_add, Nat.mul_one]]
      exact LeR.slcE (Nat.zero_le _) rfl (by rw [List.length_set]; simp only; omega)
    · exact (by repeat' (first | exact trivial | exact LeX.t | exact LeX.top | exact LeX.nilOwn (Nat.le_of_ble_eq_true rfl) (Nat.le_of_ble_eq_true rfl) | exact LeX.ownT | exact LeX.nilT | exact LeX.same rfl | exact LeX.tEq (by simp) | exact LeX.ownEq (by simp) (Nat.le_of_ble_eq_true rfl) | exact LeX.tEq (by congr 1 <;> omega) | exact Or.inr ⟨Nat.le_of_ble_eq_true rfl, Nat.le_of_ble_eq_true rfl, rfl⟩ | refine Or.inl ⟨Nat.le_of_ble_eq_true rfl, _, rfl, ?_⟩ | refine LeO.cells ?_ | exact LeO.arr rfl | exact LeO.arr (by simp) | exact LeO.mE (by first | rfl | simp) (by first | exact Or.inl rfl | exact Or.inr rfl) | exact LeO.cE (by first | rfl | simp) | exact LeXs.cE (by first | rfl | simp) | refine LeO.map (by first | rfl | simp) ?_ (by first | exact Or.inl rfl | exact Or.inr rfl) | exact LeO.iter (by first | rfl | simp) (Nat.le_of_ble_eq_true rfl) | refine LeXs.cons ?_ ?_ | exact LeXs.nil | refine And.intro ?_ ?_))
theorem split_ok (H : Pr23 P) (s : Str) (hs : s.length ≤ 140737488355328) (hc : s.count 32 < 8796093022208) : FnOk P 46 [.t (.str s), .t (.str [32])] ⟨[], 0⟩ { v := .t (.lst ((splS s).map sE)) } := by
  refine FnOk.run H.i46 H.mixed rfl rfl ?_
  refine fR rfl ?_
  refine Mid.call (genSplit_ok H s hs hc) rfl rfl rfl rfl ?_
  refine fM rfl ?_
  refine Run.fin rfl (EndOk.go ?_); exact .t rfl
theorem dSet_ok (H : Pr23 P) (s : Str) (hs : s.length ≤ 140737488355328) (hc : s.count 32 < 8796093022208) : FnOk P 13 [.t (.str s)] ⟨[], 0⟩ { v := .tup [.t (.lst ((setF s).1.map sE)), .t (.int .i64 (setF s).2)] } := by
  have hsp := split_ok H s hs hc
  have hll := splS_len s
  have hel : ∀ x, x ∈ splS s → x.length ≤ 140737488355328 := fun x hx => Nat.le_trans (splS_mem hx) hs
  have hR : ∀ R, setF s = R → FnOk P 13 [.t (.str s)] ⟨[], 0⟩ { v := .tup [.t (.lst (R.1.map sE)), .t (.int .i64 R.2)] } := by
    intro R hR
    unfold setF at hR
    generalize splS s = l at hsp hll hel hR
    refine FnOk.run H.i13 H.mixed rfl rfl ?_
    refine fR rfl ?_
    refine Mid.call (hsp) rfl rfl rfl rfl ?_
    refine fM rfl ?_
    refine lM rfl rfl rfl ?_
    refine fM rfl ?_
    refine rList l (fun i (_ : Unit) => { env := [(4, .t (.lst (l.map sE))), (11, .t (.lst (l.map sE))), (12, .t (.int .i64 l.length)), (13, .t (.int .i64 i))], s := ⟨[], 0⟩ }) (fun r i _ => (l.any fun x => !nameF x || resF x) = r.any fun x => !nameF x || resF x) 0 () rfl rfl rfl rfl rfl ?_ ?_
    · intro _ hinv
      have hb : (l.any fun x => !nameF x || resF x) = false := by rw [hinv]; rfl
      unfold setL at hR
      rw [if_neg (by rw [hb]; simp)] at hR
      refine fR rfl ?_
      refine Run.condF rfl rfl (by simp) ?_
      refine fR rfl ?_
      refine lM rfl rfl rfl ?_
      refine fM rfl ?_
      refine Run.cond rfl rfl (fun h4 => ?_) (fun h4 => ?_)
      · have h4' : l.length > 4 := by simp at h4; omega
        rw [if_pos h4'] at hR
        subst hR
        refine fR rfl ?_
        refine Run.fin rfl (EndOk.go ?_); exact .tup2 (.nil rfl) (.t rfl)
      · have h4' : ¬ l.length > 4 := by simp at h4; omega
        rw [if_neg h4'] at hR
        refine fR rfl ?_
        refine lM rfl rfl rfl ?_
        refine fM rfl ?_
        refine rList l (fun i (_ : Unit) => { env := [(4, .t (.lst (l.map sE))), (29, .t (.int .i64 l.length)), (30, .t (.int .i64 i))], s := ⟨[], 0⟩ }) (fun r i _ => dupS [] l = dupS (l.take i) r) 0 () rfl rfl rfl rfl rfl ?_ ?_
        · intro _ hd
          rw [if_neg (by rw [hd]; simp [dupS])] at hR
          subst hR
          refine fR rfl ?_
          refine Run.condF rfl rfl (by simp) ?_
          refine fR rfl ?_
          refine Run.fin rfl (EndOk.go ?_); exact .tup2 (.t rfl) (.t rfl)
        · intro i x r _ h1 hi hdr hd ih
          have htk : l.take i ++ [x] = l.take (i + 1) := by rw [List.take_add_one, h1]; rfl
          refine fR rfl ?_
          refine Run.condT rfl rfl (by simp; omega) ?_
          refine fR rfl ?_
          refine rList (l.take i) (fun k (_ : Unit) => { env := [(4, .t (.lst (l.map sE))), (7, .t (.int .i64 i)), (29, .t (.int .i64 l.length)), (30, .t (.int .i64 i)), (33, .t (.int .i64 i)), (34, .t (.int .i64 k))], s := ⟨[], 0⟩ }) (fun r' k _ => decide (x ∈ l.take i) = decide (x ∈ r')) 0 () rfl rfl rfl rfl rfl ?_ ?_
          · intro _ hm
            have hm' : ¬ x ∈ l.take i := by simpa using hm
            refine fR rfl ?_
            refine Run.condF rfl rfl (by simp; omega) ?_
            refine fR rfl ?_
            refine aL rfl rfl rfl rfl rfl ?_
            refine fM rfl ?_
            exact rWeak 0 rfl (ih () (by rw [hd, dupS, ← htk]; simp [hm'])) rfl rfl rfl
          · intro k y r' _ g1 gi gd hm ih2
            have gi' : k < i := by rw [List.length_take] at gi; omega
            have g2 : l[k]? = some y := by rw [List.getElem?_take, if_pos gi'] at g1; exact g1
            refine fR rfl ?_
            refine Run.condT rfl rfl (by simp; omega) ?_
            refine fR rfl ?_
            refine Mid.elemMap rfl rfl rfl h1 rfl rfl ?_
            refine fM rfl ?_
            refine Mid.elemMap rfl rfl rfl g2 rfl rfl ?_
            refine fM rfl ?_
            refine Run.cond rfl rfl (fun he => ?_) (fun he => ?_)
            · have he' : x = y := by simpa using he
              have hmem : x ∈ l.take i := by
                have := hm.trans (decide_eq_true (by rw [he']; exact List.mem_cons_self ..))
                exact of_decide_eq_true this
              rw [if_pos (by rw [hd, dupS, decide_eq_true hmem]; rfl)] at hR
              subst hR
              refine fR rfl ?_
              refine Run.fin rfl (EndOk.go ?_); exact .tup2 (.nil rfl) (.t rfl)
            · have he' : ¬ x = y := by simpa using he
              refine fR rfl ?_
              refine aL rfl rfl rfl rfl rfl ?_
              refine fM rfl ?_
              exact rWeak 0 rfl (ih2 () (by rw [hm]; simp [he'])) rfl rfl rfl
    · intro i x r _ h1 hi hdr hinv ih
      have hx := hel x (List.mem_of_getElem? h1)
      refine fR rfl ?_
      refine Run.condT rfl rfl (by simp; omega) ?_
      refine fR rfl ?_
      refine Mid.elemMap rfl rfl rfl h1 rfl rfl ?_
      refine fM rfl ?_
      refine Mid.call (tname_ok H x hx) rfl rfl rfl rfl ?_
      refine fM rfl ?_
      refine caG rfl rfl (fun hg => ⟨_, rfl, treserved_ok H x hx, rfl⟩) rfl rfl ?_
      refine fM rfl ?_
      refine Run.cond rfl rfl (fun hb => ?_) (fun hb => ?_)
      · unfold setL at hR
        rw [if_pos (by rw [hinv, List.any_cons, show (!nameF x || resF x) = true from hb]; rfl)] at hR
        subst hR
        refine fR rfl ?_
        refine Run.fin rfl (EndOk.go ?_); exact .tup2 (.nil rfl) (.t rfl)
      · refine fR rfl ?_
        refine aL rfl rfl rfl rfl rfl ?_
        refine fM rfl ?_
        exact rWeak 0 rfl (ih () (by rw [hinv, List.any_cons, show (!nameF x || resF x) = false from hb]; rfl)) rfl rfl rfl
  exact hR _ rfl
end Go.GB.C23


/-
  F23E: chapter 23's functions: arguments, rules.
-/
namespace Go.GB.C23
open Go.GB Go.GB.C11
set_option linter.unusedSimpArgs false
set_option linter.unusedVariables false
set_option maxRecDepth 100000
set_option maxHeartbeats 4000000
variable {P : Program}

def dV (d : Dir) : V := .agg [.t (.str d.name), .t (.lst (d.args.map Arg.enc))]
theorem argV_ok (H : Pr23 P) (f : FuncId) (d : Dir) (hd : d.args.length ≤ 140737488355328) (a : Str) (hf : f = 56 ∨ f = 57) : FnOk P f [dV d, .t (.str a)] ⟨[], 0⟩ { v := .tup [((argF a d.args).getD Val.zero).v, .t (.bool (argF a d.args).isSome)] } := by
  rcases hf with rfl | rfl
  · refine FnOk.run H.i56 H.mixed rfl rfl ?_
    refine fR rfl ?_
    refine lM rfl rfl rfl ?_
    refine fM rfl ?_
    refine rList d.args (fun i (_ : Unit) => { env := [(1, .t (.str a)), (4, .ptr 1 0), (9, .t (.lst (d.args.map Arg.enc))), (10, .t (.int .i64 d.args.length)), (11, .t (.int .i64 i))], s := ⟨[(1, .cells [.t (.int .i64 0), .t (.int .i64 0), .t (.str []), .nils, .nils])], 2⟩ }) (fun r i _ => argF a d.args = argF a r) 2 () rfl rfl rfl rfl rfl ?_ ?_
    · intro _ hinv
      refine fR rfl ?_
      refine Run.condF rfl rfl (by simp) ?_
      refine fR rfl ?_
      have e : argF a d.args = none := by rw [hinv]; rfl
      rw [e]
      refine Run.fin rfl (EndOk.go ?_); exact .tup2 (.agg (.cons (.t rfl) (.cons (.t rfl) (.cons (.t rfl) (.cons (.nil rfl) (.cons (.nil rfl) .nil)))))) (.t rfl)
    · intro i x r _ h1 hi hdr hinv ih
      refine fR rfl ?_
      refine Run.condT rfl rfl (by simp; omega) ?_
      refine fR rfl ?_
      refine Mid.elemMap rfl rfl rfl h1 rfl rfl ?_
      refine fM rfl ?_
      refine Run.cond rfl rfl (fun h => ?_) (fun h => ?_)
      · have h' : x.name = a := by simpa using h
        refine fR rfl ?_
        have e : argF a d.args = some x.val := by rw [hinv]; simp only [argF]; rw [if_pos h']
        rw [e]
        refine Run.fin rfl (EndOk.go ?_); exact .tup2 (.le (.same rfl)) (.t rfl)
      · have h' : ¬ x.name = a := by simpa using h
        refine fR rfl ?_
        refine aL rfl rfl rfl rfl rfl ?_
        refine fM rfl ?_
        exact rWeak 2 rfl (ih () (by rw [hinv]; simp only [argF]; rw [if_neg h'])) rfl rfl rfl
  · refine FnOk.run H.i57 H.mixed rfl rfl ?_
    refine fR rfl ?_
    refine rList d.args (fun i (_ : Unit) => { env := [(1, .t (.str a)), (2, .ptr 0 0), (4, .ptr 1 0), (6, .t (.int .i64 i))], s := ⟨[(0, .cells [.t (.str d.name), .t (.lst (d.args.map Arg.enc))]), (1, .cells [.t (.int .i64 0), .t (.int .i64 0), .t (.str []), .nils, .nils])], 2⟩ }) (fun r i _ => argF a d.args = argF a r) 2 () rfl rfl rfl rfl rfl ?_ ?_
    · intro _ hinv
      refine fR rfl ?_
      refine lM rfl rfl rfl ?_
      refine fM rfl ?_
      refine Run.condF rfl rfl (by simp) ?_
      refine fR rfl ?_
      have e : argF a d.args = none := by rw [hinv]; rfl
      rw [e]
      refine Run.fin rfl (EndOk.go ?_); exact .tup2 (.agg (.cons (.t rfl) (.cons (.t rfl) (.cons (.t rfl) (.cons (.nil rfl) (.cons (.nil rfl) .nil)))))) (.t rfl)
    · intro i x r _ h1 hi hdr hinv ih
      refine fR rfl ?_
      refine lM rfl rfl rfl ?_
      refine fM rfl ?_
      refine Run.condT rfl rfl (by simp; omega) ?_
      refine fR rfl ?_
      refine Mid.elemMap rfl rfl rfl h1 rfl rfl ?_
      refine fM rfl ?_
      refine Run.cond rfl rfl (fun h => ?_) (fun h => ?_)
      · have h' : x.name = a := by simpa using h
        refine fR rfl ?_
        refine Mid.elemMap rfl rfl rfl h1 rfl rfl ?_
        refine fM rfl ?_
        have e : argF a d.args = some x.val := by rw [hinv]; simp only [argF]; rw [if_pos h']
        rw [e]
        refine Run.fin rfl (EndOk.go ?_); exact .tup2 (.le (.same rfl)) (.t rfl)
      · have h' : ¬ x.name = a := by simpa using h
        refine fR rfl ?_
        refine aL rfl rfl rfl rfl rfl ?_
        refine fM rfl ?_
        exact rWeak 2 rfl (ih () (by rw [hinv]; simp only [argF]; rw [if_neg h'])) rfl rfl rfl
theorem hasD_ok (H : Pr23 P) (f : FuncId) (l : List Dir) (hl : l.length ≤ 140737488355328) (n : Str) (hf : f = 25 ∨ f = 19) : FnOk P f [.t (.lst (l.map Dir.enc)), .t (.str n)] ⟨[], 0⟩ { v := .t (.bool (hasD n l)) } := by
  rcases hf with rfl | rfl
  · refine FnOk.run H.i25 H.mixed rfl rfl ?_
    refine fR rfl ?_
    refine lM rfl rfl rfl ?_
    refine fM rfl ?_
    refine rList l (fun i (_ : Unit) => { env := [(1, .t (.str n)), (7, .t (.lst (l.map Dir.enc))), (8, .t (.int .i64 l.length)), (9, .t (.int .i64 i))], s := ⟨[], 0⟩ }) (fun r i _ => hasD n l = hasD n r) 0 () rfl rfl rfl rfl rfl ?_ ?_
    · intro _ hinv
      refine fR rfl ?_
      refine Run.condF rfl rfl (by simp) ?_
      refine fR rfl ?_
      refine Run.fin rfl (EndOk.go ?_); exact .t (by rw [hinv]; rfl)
    · intro i x r _ h1 hi hdr hinv ih
      refine fR rfl ?_
      refine Run.condT rfl rfl (by simp; omega) ?_
      refine fR rfl ?_
      refine Mid.elemMap rfl rfl rfl h1 rfl rfl ?_
      refine fM rfl ?_
      refine Run.cond rfl rfl (fun h => ?_) (fun h => ?_)
      · refine fR rfl ?_
        refine Run.fin rfl (EndOk.go ?_); exact .t (by rw [hinv]; unfold hasD; rw [List.any_cons, h]; rfl)
      · refine fR rfl ?_
        refine aL rfl rfl rfl rfl rfl ?_
        refine fM rfl ?_
        exact rWeak 0 rfl (ih () (by rw [hinv]; unfold hasD; rw [List.any_cons, h]; rfl)) rfl rfl rfl
  · refine FnOk.run H.i19 H.mixed rfl rfl ?_
    refine fR rfl ?_
    refine rList l (fun i (_ : Unit) => { env := [(0, .t (.lst (l.map Dir.enc))), (1, .t (.str n)), (5, .t (.int .i64 i))], s := ⟨[], 0⟩ }) (fun r i _ => hasD n l = hasD n r) 0 () rfl rfl rfl rfl rfl ?_ ?_
    · intro _ hinv
      refine fR rfl ?_
      refine lM rfl rfl rfl ?_
      refine fM rfl ?_
      refine Run.condF rfl rfl (by simp) ?_
      refine fR rfl ?_
      refine Run.fin rfl (EndOk.go ?_); exact .t (by rw [hinv]; rfl)
    · intro i x r _ h1 hi hdr hinv ih
      refine fR rfl ?_
      refine lM rfl rfl rfl ?_
      refine fM rfl ?_
      refine Run.condT rfl rfl (by simp; omega) ?_
      refine fR rfl ?_
      refine Mid.elemMap rfl rfl rfl h1 rfl rfl ?_
      refine fM rfl ?_
      refine Run.cond rfl rfl (fun h => ?_) (fun h => ?_)
      · refine fR rfl ?_
        refine Run.fin rfl (EndOk.go ?_); exact .t (by rw [hinv]; unfold hasD; rw [List.any_cons, h]; rfl)
      · refine fR rfl ?_
        refine aL rfl rfl rfl rfl rfl ?_
        refine fM rfl ?_
        exact rWeak 0 rfl (ih () (by rw [hinv]; unfold hasD; rw [List.any_cons, h]; rfl)) rfl rfl rfl

/- rules -/
def fnK : Nat → FuncId
  | 0 => 117
  | 1 => 118
  | 2 => 119
  | 3 => 120
  | _ => 121
def PRule.enc (p : PRule) : List T := [.str p.name, .bool p.may, .fn (fnK p.k)]
def Rule.v (r : Rule) : V := .agg [.t (.int .i64 r.places), .t (.bool r.again), .t (.lst (r.params.map PRule.enc))]
def Rule.zero : Rule := ⟨0, false, []⟩
/- values that fit -/
end Go.GB.C23


/-
  F23F: chapter 23's functions: the reference's arguments and places.
-/
namespace Go.GB.C23
open Go.GB Go.GB.C11
set_option linter.unusedSimpArgs false
set_option linter.unusedVariables false
set_option maxRecDepth 100000
set_option maxHeartbeats 4000000
variable {P : Program}

def glue (p : Str) : List Str → List Str
  | [] => [p]
  | h :: t => (p ++ h) :: t
structure SrOk (s : Str) (out : List Str) (fr i : Nat) : Prop where
  le : i ≤ s.length + 1
  fl : fr ≤ i
  ol : out.length ≤ i
  go : i ≤ s.length → splS s = out ++ glue ((s.take i).drop fr) (splS (s.drop i))
  en : i = s.length + 1 → splS s = out
end Go.GB.C23


/-
  F23G: chapter 23's functions: the reference's sets, values that fit, arguments.
-/
namespace Go.GB.C23
open Go.GB Go.GB.C11
set_option linter.unusedSimpArgs false
set_option linter.unusedVariables false
set_option maxRecDepth 100000
set_option maxHeartbeats 4000000
variable {P : Program}

/-- directives whose texts are not long -/
structure DOk (d : Dir) : Prop where
  l : d.args.length ≤ 140737488355328
  nm : d.name.length ≤ 140737488355328
  an : ∀ a, a ∈ d.args → a.name.length ≤ 140737488355328 ∧ a.val.Ok ∧ a.val.text.length ≤ 1048576
end Go.GB.C23


/-
  F23H: chapter 23's functions: judging uses of directives.
-/
namespace Go.GB.C23
open Go.GB Go.GB.C11
set_option linter.unusedSimpArgs false
set_option linter.unusedVariables false
set_option maxRecDepth 100000
set_option maxHeartbeats 4000000
variable {P : Program}

/-- lists of uses whose texts are not long -/
structure DsOk (l : List Dir) : Prop where
  len : l.length ≤ 2199023255552
  all : ∀ d, d ∈ l → DOk d
end Go.GB.C23


/-
  F23I: chapter 23's functions: violations of documents, both ways.
-/
namespace Go.GB.C23
open Go.GB Go.GB.C11
set_option linter.unusedSimpArgs false
set_option linter.unusedVariables false
set_option maxRecDepth 100000
set_option maxHeartbeats 4000000
variable {P : Program}
/-- documents whose texts are not long -/
structure InpD (a : Input) : Prop where
  nm : a.name.length ≤ 140737488355328
  d : DsOk a.dirs
structure FldD (f : Field) : Prop where
  nm : f.name.length ≤ 140737488355328
  d : DsOk f.dirs
  al : f.args.length ≤ 140737488355328
  a : ∀ x, x ∈ f.args → InpD x
structure MemD (m : Member) : Prop where
  nm : m.name.length ≤ 140737488355328
  d : DsOk m.dirs
structure DefD (t : Def) : Prop where
  nm : t.name.length ≤ 140737488355328
  d : DsOk t.dirs
  fl : t.fields.length ≤ 549755813888
  f : ∀ x, x ∈ t.fields → FldD x
  ml : t.members.length ≤ 549755813888
  m : ∀ x, x ∈ t.members → MemD x
  il : t.inputs.length ≤ 549755813888
  i : ∀ x, x ∈ t.inputs → InpD x
end Go.GB.C23


/-
  F23K: chapter 23's functions: the directives without those of subgraphs; values found.
-/
namespace Go.GB.C23
open Go.GB Go.GB.C11
set_option linter.unusedSimpArgs false
set_option linter.unusedVariables false
set_option maxRecDepth 100000
set_option maxHeartbeats 4000000
variable {P : Program}
/-- the value of an argument of the first of the uses by a name -/
def argD (n a : Str) : List Dir → Option Val
  | [] => none
  | d :: r => if d.name = n then argF a d.args else argD n a r
structure AOk (l : List Dir) : Prop where
  len : l.length ≤ 1099511627776
  all : ∀ d, d ∈ l → d.args.length ≤ 140737488355328
theorem arg_ok (H : Pr23 P) (l : List Dir) (hd : AOk l) (n a : Str) : FnOk P 23 [.t (.lst (l.map Dir.enc)), .t (.str n), .t (.str a)] ⟨[], 0⟩ { v := .tup [((argD n a l).getD Val.zero).v, .t (.bool (argD n a l).isSome)] } := by
  have hl := hd.len
  have hR : ∀ R, argD n a l = R → FnOk P 23 [.t (.lst (l.map Dir.enc)), .t (.str n), .t (.str a)] ⟨[], 0⟩ { v := .tup [(R.getD Val.zero).v, .t (.bool R.isSome)] } := by
    intro R hR
    refine FnOk.run H.i23 H.mixed rfl rfl ?_
    refine fR rfl ?_
    refine lM rfl rfl rfl ?_
    refine fM rfl ?_
    refine rList l (fun i (_ : Unit) => { env := [(1, .t (.str n)), (2, .t (.str a)), (6, .ptr 0 0), (10, .t (.lst (l.map Dir.enc))), (11, .t (.int .i64 l.length)), (12, .t (.int .i64 i))], s := ⟨[(0, .cells [.t (.int .i64 0), .t (.int .i64 0), .t (.str []), .nils, .nils])], 1⟩ }) (fun r i _ => argD n a r = R) 1 () rfl hR rfl rfl rfl ?_ ?_
    · rintro _ hB
      have hB' : R = none := by rw [← hB]; rfl
      subst hB'
      refine fR rfl ?_
      refine Run.condF rfl rfl (by simp) ?_
      refine fR rfl ?_
      refine Run.fin rfl (EndOk.go ?_); exact .tup2 (.agg (.cons (.t rfl) (.cons (.t rfl) (.cons (.t rfl) (.cons (.nil rfl) (.cons (.nil rfl) .nil)))))) (.t rfl)
    · rintro i x r _ h1 hi hdr hB ih
      have hx := hd.all x (List.mem_of_getElem? h1)
      refine fR rfl ?_
      refine Run.condT rfl rfl (by simp; omega) ?_
      refine fR rfl ?_
      refine Mid.elemMap rfl rfl rfl h1 rfl rfl ?_
      refine fM rfl ?_
      refine Run.cond rfl rfl (fun hc => ?_) (fun hc => ?_)
      · have hc' : x.name = n := by simpa using hc
        rw [argD, if_pos hc'] at hB
        subst hB
        refine fR rfl ?_
        refine Mid.call (argV_ok H 56 x hx a (.inl rfl)) rfl rfl rfl rfl ?_
        refine fM rfl ?_
        refine Run.fin rfl (EndOk.go ?_); exact .tup2 (.le (.same rfl)) (.t rfl)
      · have hc' : ¬ x.name = n := by simpa using hc
        rw [argD, if_neg hc'] at hB
        refine fR rfl ?_
        refine aL rfl rfl rfl rfl rfl ?_
        refine fM rfl ?_
        exact rWeak 1 rfl (ih () hB) rfl rfl rfl
  exact hR _ rfl
end Go.GB.C23


/-
  F23J: chapter 23's functions: the program's check of directives.
-/
namespace Go.GB.C23
open Go.GB Go.GB.C11
set_option linter.unusedSimpArgs false
set_option linter.unusedVariables false
set_option maxRecDepth 100000
set_option maxHeartbeats 4000000
variable {P : Program}

end Go.GB.C23


/-
  F25A: moves: sets of fields that directives name; keys of types.
-/
namespace Go.GB.C23
open Go.GB Go.GB.C11
set_option linter.unusedSimpArgs false
set_option linter.unusedVariables false
set_option maxRecDepth 100000
set_option maxHeartbeats 4000000
structure Pr25 (P : Program) : Prop extends Pr23 P where
  i11 : fnInfo P 11 = some (n11, c11.bare, r11)
  i32 : fnInfo P 32 = some (n32, c32.bare, r32)
  i33 : fnInfo P 33 = some (n33, c33.bare, r33)
  i38 : fnInfo P 38 = some (n38, c38.bare, r38)
  i39 : fnInfo P 39 = some (n39, c39.bare, r39)
  i40 : fnInfo P 40 = some (n40, c40.bare, r40)
  i41 : fnInfo P 41 = some (n41, c41.bare, r41)
  i42 : fnInfo P 42 = some (n42, c42.bare, r42)
  i43 : fnInfo P 43 = some (n43, c43.bare, r43)
  i44 : fnInfo P 44 = some (n44, c44.bare, r44)
  i45 : fnInfo P 45 = some (n45, c45.bare, r45)
  i60 : fnInfo P 60 = some (n60, c60.bare, r60)
  i61 : fnInfo P 61 = some (n61, c61.bare, r61)
  i62 : fnInfo P 62 = some (n62, c62.bare, r62)
  i63 : fnInfo P 63 = some (n63, c63.bare, r63)
  i64 : fnInfo P 64 = some (n64, c64.bare, r64)
  i68 : fnInfo P 68 = some (n68, c68.bare, r68)
  i81 : fnInfo P 81 = some (n81, c81.bare, r81)
  i82 : fnInfo P 82 = some (n82, c82.bare, r82)
  i83 : fnInfo P 83 = some (n83, c83.bare, r83)
  i84 : fnInfo P 84 = some (n84, c84.bare, r84)
  i85 : fnInfo P 85 = some (n85, c85.bare, r85)
  i86 : fnInfo P 86 = some (n86, c86.bare, r86)
  i87 : fnInfo P 87 = some (n87, c87.bare, r87)
  i106 : fnInfo P 106 = some (n106, c106.bare, r106)
  i108 : fnInfo P 108 = some (n108, c108.bare, r108)
  i109 : fnInfo P 109 = some (n109, c109.bare, r109)
  i110 : fnInfo P 110 = some (n110, c110.bare, r110)
  i111 : fnInfo P 111 = some (n111, c111.bare, r111)
  i112 : fnInfo P 112 = some (n112, c112.bare, r112)
  i127 : fnInfo P 127 = some (n127, c127.bare, r127)
  i128 : fnInfo P 128 = some (n128, c128.bare, r128)
variable {P : Program}

/-- one element of a list, as a list -/
theorem take_drop_one {α : Type} {l : List α} {i : Nat} {a : α} (h : l[i]? = some a) : (l.take (i + 1)).drop i = [a] := by
  rw [List.take_add_one, h, List.drop_append_of_le_length (by rw [List.length_take]; have := (List.getElem?_eq_some_iff.1 h).1; omega)]
  simp
theorem lstOne {n m : Nat} {R : St → Prop} {draw : Bool} {all : List AO} {after : List (List Nat)} {live : List Nat} {k : List It} {b : Nat} {fl : List (Bool × Bool)} {ops : List AO} {st st' : St} {d : Option Nat}
    {α : Type} {f : α → List T} {l : List α} {sz : Nat} {x lo hi : Ar} {v : V} {kd kd' : IntKind} {i : Nat} {j : Int} {a : α} (hx : rd true st x = (v, [])) (hv : v.cell1 = some (.lst (l.map f))) (hlo : rd true st lo = (.t (.int kd i), [])) (hhi : rd true st hi = (.t (.int kd' j), [])) (hj : j = ((i + 1 : Nat) : Int)) (ha : l[i]? = some a) (hsz : ∀ x, (f x).length = sz) (hs : stepV st d (.t (.lst ([a].map f))) some = some st')
    (h' : Mid P n m R draw all after live k b ((false, false) :: fl) ops st') : Mid P n m R draw all after live k b fl (⟨d, none, .sll sz x (some lo) (some hi)⟩ :: ops) st := by
  have hi' := (List.getElem?_eq_some_iff.1 ha).1
  have e : ((l.map f).take (i + 1)).drop i = [a].map f := by rw [← List.map_take, ← List.map_drop, take_drop_one ha]
  subst hj
  exact Mid.val (v := .t (.lst ([a].map f))) (ps := [true, true, true, true]) (by simp only [evalE, hx, hv, bnd, hlo, hhi]; rw [show ((i : Nat) : Int).toNat = i from Int.toNat_natCast i, show ((i + 1 : Nat) : Int).toNat = i + 1 from Int.toNat_natCast _, e]; simp [allLen, hsz]; omega) rfl ⟨rfl, rfl, rfl, rfl, trivial⟩ hs h'

/- what is said of the texts of values -/
theorem argF_tx {a : Str} {v : Val} : ∀ {l : List Arg}, (∀ x, x ∈ l → x.val.text.length ≤ 1048576) → argF a l = some v → v.text.length ≤ 1048576
  | [], _, h => by cases h
  | x :: r, ho, h => by
    rw [argF] at h
    split at h
    · rw [← Option.some.inj h]; exact ho x (List.mem_cons_self ..)
    · exact argF_tx (fun y hy => ho y (List.mem_cons_of_mem _ hy)) h
theorem argD_tx {n a : Str} {v : Val} : ∀ {l : List Dir}, (∀ d, d ∈ l → DOk d) → argD n a l = some v → v.text.length ≤ 1048576
  | [], _, h => by cases h
  | x :: r, ho, h => by
    rw [argD] at h
    split at h
    · exact argF_tx (fun y hy => ((ho x (List.mem_cons_self ..)).an y hy).2.2) h
    · exact argD_tx (fun y hy => ho y (List.mem_cons_of_mem _ hy)) h
/-- directives of a document of bounded bulk -/
structure DK (ds : List Dir) : Prop where
  l : ds.length ≤ 1048576
  d : ∀ d, d ∈ ds → DOk d
theorem DK.aok {l : List Dir} (h : DK l) : AOk l := ⟨by have := h.l; omega, fun d hd => (h.d d hd).l⟩
theorem DK.len {l : List Dir} (h : DK l) : l.length ≤ 140737488355328 := by have := h.l; omega
/-- the set of fields of the first use of a directive -/
def setM (l : List Dir) (n : Str) : List Str := (setF ((argD n ([102, 105, 101, 108, 100, 115] : Str) l).getD Val.zero).text).1
theorem setF_bad {s : Str} (h : ¬ (setF s).2 = 0) : (setF s).1 = [] := by
  unfold setF setL at h ⊢
  split
  · rfl
  · rename_i h1
    rw [if_neg h1] at h
    split
    · rfl
    · rename_i h2
      rw [if_neg h2] at h
      split
      · rfl
      · rename_i h3
        rw [if_neg h3] at h
        exact absurd rfl h
theorem setF_le (s : Str) : (setF s).1.length ≤ 4 := by
  unfold setF setL
  split
  · simp
  · split
    · simp
    · split
      · simp
      · simp; omega
theorem setM_le (l : List Dir) (n : Str) : (setM l n).length ≤ 4 := setF_le _
theorem set_ok (H : Pr25 P) (l : List Dir) (hd : DK l) (n : Str) : FnOk P 64 [.t (.lst (l.map Dir.enc)), .t (.str n)] ⟨[], 0⟩ { v := .t (.lst ((setM l n).map sE)) } := by
  have htx : ((argD n ([102, 105, 101, 108, 100, 115] : Str) l).getD Val.zero).text.length ≤ 1048576 := by
    cases hq : argD n ([102, 105, 101, 108, 100, 115] : Str) l with
    | none => exact Nat.zero_le _
    | some v => exact argD_tx hd.d hq
  have hcn : ((argD n ([102, 105, 101, 108, 100, 115] : Str) l).getD Val.zero).text.count 32 ≤ ((argD n ([102, 105, 101, 108, 100, 115] : Str) l).getD Val.zero).text.length := List.count_le_length
  have h1 := arg_ok H.toPr23 l hd.aok n ([102, 105, 101, 108, 100, 115] : Str)
  unfold setM
  generalize (argD n ([102, 105, 101, 108, 100, 115] : Str) l).getD Val.zero = v at h1 htx hcn
  generalize (argD n ([102, 105, 101, 108, 100, 115] : Str) l).isSome = b at h1
  have h2 := dSet_ok H.toPr23 v.text (by omega) (by omega)
  have h3 := fun h => setF_bad (s := v.text) h
  generalize setF v.text = R at h2 h3
  refine FnOk.run H.i64 H.mixed rfl rfl ?_
  refine fR rfl ?_
  refine Mid.call (h1) rfl rfl rfl rfl ?_
  refine fM rfl ?_
  refine Mid.call (h2) rfl rfl rfl rfl ?_
  refine fM rfl ?_
  refine Run.cond rfl rfl (fun h => ?_) (fun h => ?_)
  · have h' : ¬ R.2 = 0 := by simpa using h
    refine fR rfl ?_
    rw [h3 h']
    refine Run.fin rfl (EndOk.go ?_); exact .nil rfl
  · refine fR rfl ?_
    refine Run.fin rfl (EndOk.go ?_); exact .t rfl

/- keys -/
def lE (k : List Str) : List T := [.lst (k.map sE)]
def keysD : List Dir → List (List Str)
  | [] => []
  | d :: r => (if d.name = ([107, 101, 121] : Str) then [setM [d] ([107, 101, 121] : Str)] else []) ++ keysD r
theorem keysD_len : ∀ l : List Dir, (keysD l).length ≤ l.length
  | [] => by simp [keysD]
  | d :: r => by
    have := keysD_len r
    rw [keysD, List.length_append, List.length_cons]
    split <;> simp <;> omega
theorem keysD_mem {k : List Str} : ∀ {l : List Dir}, k ∈ keysD l → k.length ≤ 4
  | [], h => by cases h
  | d :: r, h => by
    rw [keysD] at h
    rcases List.mem_append.1 h with h | h
    · split at h
      · simp at h; rw [h]; exact setM_le _ _
      · cases h
    · exact keysD_mem h
theorem keysOf_ok (H : Pr25 P) (t : Def) (hd : DK t.dirs) : FnOk P 62 [t.v] ⟨[], 0⟩ { v := .t (.lst ((keysD t.dirs).map lE)) } := by
  have hl := hd.l
  generalize hR : keysD t.dirs = R
  refine FnOk.run H.i62 H.mixed rfl rfl ?_
  refine fR rfl ?_
  refine lM rfl rfl rfl ?_
  refine fM rfl ?_
  refine rList t.dirs (fun i (B : List (List Str)) => { env := [(1, .ptr 0 0), (3, .own 1 1 (B.map lE)), (7, .t (.lst (t.dirs.map Dir.enc))), (8, .t (.int .i64 t.dirs.length)), (9, .t (.int .i64 i))], s := ⟨[(0, (.cells [.t (.int .i64 t.kind), .t (.str t.name), .t (.lst (t.implements.map sE)), .t (.lst (t.dirs.map Dir.enc)), .t (.lst (t.fields.map Field.enc)), .t (.lst (t.members.map Member.enc)), .t (.lst (t.inputs.map Input.enc))])), (1, .arr B.length)], 2⟩ }) (fun r i B => B.length ≤ i ∧ B ++ keysD r = R) 1 [] rfl ⟨by simp, hR⟩ rfl rfl rfl ?_ ?_
  · rintro B ⟨_, hB⟩
    have hB' : B = R := by rw [← hB]; simp [keysD]
    subst hB'
    refine fR rfl ?_
    refine Run.condF rfl rfl (by simp) ?_
    refine fR rfl ?_
    refine Run.fin rfl (EndOk.go ?_); exact .own rfl
  · rintro i d r B h1 hi hdr ⟨hBl, hB⟩ ih
    have hBl' : B.length ≤ i := hBl
    have hdd := hd.d d (List.mem_of_getElem? h1)
    have hB2 : B ++ ((if d.name = ([107, 101, 121] : Str) then [setM [d] ([107, 101, 121] : Str)] else []) ++ keysD r) = R := hB
    refine fR rfl ?_
    refine Run.condT rfl rfl (by simp; omega) ?_
    refine fR rfl ?_
    refine Mid.elemMap rfl rfl rfl h1 rfl rfl ?_
    refine fM rfl ?_
    refine Run.cond rfl rfl (fun hk => ?_) (fun hk => ?_)
    · have hk' : d.name = ([107, 101, 121] : Str) := by simpa using hk
      rw [if_pos hk'] at hB2
      refine fR rfl ?_
      refine aL rfl rfl rfl rfl rfl ?_
      refine lstOne (f := Dir.enc) rfl rfl rfl rfl (by simp) h1 (fun _ => rfl) rfl ?_
      skip
      refine Mid.call (set_ok H [d] ⟨by simp, by simpa using hdd⟩ ([107, 101, 121] : Str)) rfl rfl rfl rfl ?_
      refine fM rfl ?_
      refine apM lE B [setM [d] ([107, 101, 121] : Str)] rfl rfl rfl rfl rfl ?_ (h1 := by first | omega | (simp; omega) | (simp; done)) (h2 := by first | omega | (simp; omega) | (simp; done))
      refine fM rfl ?_
      refine aL rfl rfl rfl rfl rfl ?_
      refine fM rfl ?_
      exact rWeak 2 rfl (ih (B ++ [setM [d] ([107, 101, 121] : Str)]) ⟨by simp; omega, by rw [← hB2]; simp⟩) rfl rfl rfl
    · have hk' : ¬ d.name = ([107, 101, 121] : Str) := by simpa using hk
      rw [if_neg hk', List.nil_append] at hB2
      refine fR rfl ?_
      refine aL rfl rfl rfl rfl rfl ?_
      refine fM rfl ?_
      exact rWeak 2 rfl (ih B ⟨by omega, hB2⟩) rfl rfl rfl

/- a field of a key -/
def isKeyM (l : List Dir) (f : Str) : Bool := (keysD l).any fun k => decide (f ∈ k)
def idxG {α : Type} (p : α → Bool) : Int → List α → Int
  | _, [] => -1
  | i, b :: l => if p b = true then i else idxG p (i + 1) l
theorem idxG_ge {α : Type} (p : α → Bool) : ∀ (l : List α) (i : Int), 0 ≤ i → decide (idxG p i l ≥ 0) = l.any p
  | [], i, h => by simp [idxG]
  | b :: l, i, h => by
    have ih := idxG_ge p l (i + 1) (by omega)
    by_cases hp : p b = true
    · simp [idxG, hp, h]
    · have e : idxG p i (b :: l) = idxG p (i + 1) l := by simp only [idxG]; rw [if_neg hp]
      rw [e, ih]; simp [hp]
theorem isKey1_ok (H : Pr25 P) (k : List Str) (hk : k.length ≤ 4) (f : Str) : FnOk P 112 [.t (.lst (k.map sE)), .ptr 0 0] ⟨[(0, .cells [.t (.str f)])], 1⟩ { v := .t (.bool (decide (f ∈ k))), rd := true } := by
  refine FnOk.run H.i112 H.mixed rfl rfl ?_
  refine fR rfl ?_
  refine Mid.call (contains_ok H.toPr k (by omega) f) rfl rfl rfl rfl ?_
  refine fM rfl ?_
  refine Run.fin rfl (EndOk.sameX rfl rfl rfl (by first | exact rfl | exact nSto_bd | exact tSto_bd) (.t (rfl)))
theorem indexFK_ok (H : Pr25 P) (l : List (List Str)) (hl : l.length ≤ 140737488355328) (hk : ∀ k, k ∈ l → k.length ≤ 4) (f : Str) : FnOk P 128 [.t (.lst (l.map lE)), .fn 112 [(0, 0)]] ⟨[(0, .cells [.t (.str f)])], 1⟩ { v := .t (.int .i64 (idxG (fun k => decide (f ∈ k)) 0 l)), rd := true } := by
  refine FnOk.run H.i128 H.mixed rfl rfl ?_
  refine fR rfl ?_
  refine lM rfl rfl rfl ?_
  refine fM rfl ?_
  refine rList l (fun i (_ : Unit) => { env := [(0, .t (.lst (l.map lE))), (1, .fn 112 [(0, 0)]), (7, .t (.int .i64 l.length)), (8, .t (.int .i64 i))], s := ⟨[(0, .cells [.t (.str f)])], 1⟩ }) (fun r i _ => idxG (fun k => decide (f ∈ k)) 0 l = idxG (fun k => decide (f ∈ k)) i r) 1 () rfl rfl rfl rfl rfl ?_ ?_
  · intro _ hinv
    refine fR rfl ?_
    refine Run.condF rfl rfl (by simp) ?_
    refine fR rfl ?_
    refine Run.fin rfl (EndOk.sameX rfl rfl rfl (by first | exact rfl | exact nSto_bd | exact tSto_bd) (.t ((by rw [hinv]; rfl))))
  · intro i x r _ h1 hi hd hinv ih
    refine fR rfl ?_
    refine Run.condT rfl rfl (by simp; omega) ?_
    refine fR rfl ?_
    refine Mid.elemMap rfl rfl rfl h1 rfl rfl ?_
    refine fM rfl ?_
    refine Mid.callvS rfl (isKey1_ok H x (hk x (List.mem_of_getElem? h1)) f) rfl rfl rfl rfl ?_
    refine fM rfl ?_
    refine Run.cond rfl rfl (fun hc => ?_) (fun hc => ?_)
    · refine fR rfl ?_
      refine Run.fin rfl (EndOk.sameX rfl rfl rfl (by first | exact rfl | exact nSto_bd | exact tSto_bd) (.t ((by rw [hinv]; simp only [idxG]; rw [if_pos hc]))))
    · refine fR rfl ?_
      refine aL rfl rfl rfl rfl rfl ?_
      refine fM rfl ?_
      have h' : ¬ decide (f ∈ x) = true := by rw [hc]; simp
      exact rWeak 1 rfl (ih () (by rw [hinv]; simp only [idxG]; rw [if_neg h']; rfl)) rfl rfl rfl
theorem containsFK_ok (H : Pr25 P) (l : List (List Str)) (hl : l.length ≤ 140737488355328) (hk : ∀ k, k ∈ l → k.length ≤ 4) (f : Str) : FnOk P 111 [.t (.lst (l.map lE)), .fn 112 [(0, 0)]] ⟨[(0, .cells [.t (.str f)])], 1⟩ { v := .t (.bool (l.any fun k => decide (f ∈ k))), rd := true } := by
  refine FnOk.run H.i111 H.mixed rfl rfl ?_
  refine fR rfl ?_
  refine Mid.callS (indexFK_ok H l hl hk f) rfl rfl (by first | exact rfl | exact nSto_bd | exact tSto_bd) rfl ?_
  refine fM rfl ?_
  refine Run.fin rfl (EndOk.sameX rfl rfl rfl (by first | exact rfl | exact nSto_bd | exact tSto_bd) (.t ((by rw [← idxG_ge (fun k => decide (f ∈ k)) l 0 (by omega)]))))
theorem isKey_ok (H : Pr25 P) (t : Def) (hd : DK t.dirs) (f : Str) : FnOk P 87 [t.v, .t (.str f)] ⟨[], 0⟩ { v := .t (.bool (isKeyM t.dirs f)) } := by
  have hl := hd.l
  have hkl := keysD_len t.dirs
  refine FnOk.run H.i87 H.mixed rfl rfl ?_
  refine fR rfl ?_
  refine Mid.call (keysOf_ok H t hd) rfl rfl rfl rfl ?_
  refine fM rfl ?_
  refine Mid.callRd [1] (containsFK_ok H (keysD t.dirs) (by omega) (fun k hk => keysD_mem hk) f) rfl rfl rfl rfl (by simp [stoBd]; simp [AObj.bd, V.bds, V.bd]) (by repeat' (first | exact trivial | exact rfl | refine And.intro ?_ ?_ | exact (congrArg some (AObj.ren_mE _ _ _ _ _ _)).symm | exact (congrArg some (AObj.ren_cE _ _ _)).symm)) rfl ?_
  refine fM rfl ?_
  refine Run.fin rfl (EndOk.go ?_); exact .t rfl
end Go.GB.C23


/-
  F25B: moves: leaf types, fields that graphs resolve, fields that are external.
-/
namespace Go.GB.C23
open Go.GB Go.GB.C11
set_option linter.unusedSimpArgs false
set_option linter.unusedVariables false
set_option maxRecDepth 100000
set_option maxHeartbeats 4000000
variable {P : Program}

structure Graph where
  name : Str
  doc : List Def
def Graph.enc (g : Graph) : List T := [.str g.name, .lst (g.doc.map Def.enc)]
def Graph.v (g : Graph) : V := .agg [.t (.str g.name), .t (.lst (g.doc.map Def.enc))]

structure FK (x : Field) : Prop where
  d : DK x.dirs
  al : x.args.length ≤ 140737488355328
  w : x.ty.wraps.length ≤ 140737488355328
  nm : x.name.length ≤ 140737488355328
structure TK (t : Def) : Prop where
  d : DK t.dirs
  fl : t.fields.length ≤ 1048576
  f : ∀ x, x ∈ t.fields → FK x
  nm : t.name.length ≤ 140737488355328
structure GK (ds : List Def) : Prop where
  ok : DocOk ds
  l : ds.length ≤ 1048576
  t : ∀ t, t ∈ ds → TK t
theorem DK.nil : DK [] := ⟨by decide, by simp⟩
theorem FK.zero : FK Field.zero := ⟨DK.nil, by decide, by decide, by decide⟩
theorem TK.zero : TK Def.zero := ⟨DK.nil, by decide, by simp [Def.zero], by decide⟩
theorem GK.find {ds : List Def} (h : GK ds) (n : Str) : TK ((findDef n ds).getD Def.zero) := by
  cases hf : findDef n ds with
  | none => exact TK.zero
  | some t => exact h.t t (findDef_mem hf)
theorem TK.field {t : Def} (h : TK t) (n : Str) : FK ((findField n t.fields).getD Field.zero) := by
  cases hf : findField n t.fields with
  | none => exact FK.zero
  | some t => exact h.f t (findField_mem hf)
theorem GK.len {ds : List Def} (h : GK ds) : ds.length ≤ 140737488355328 := h.ok.l

def kindM (ds : List Def) (n : Str) : Int := ((findDef n ds).getD Def.zero).kind
def leafM (ds : List Def) (n : Str) : Bool := scalF n || kindM ds n == 4
theorem kind25_ok (H : Pr25 P) (ds : List Def) (gk : GK ds) (n : Str) : FnOk P 106 [docV ds, .t (.str n)] ⟨[], 0⟩ { v := .t (.int .i64 (kindM ds n)) } := by
  refine FnOk.run H.i106 H.mixed rfl rfl ?_
  refine fR rfl ?_
  refine Mid.call (find_ok H.toPr ds gk.len n) rfl rfl rfl rfl ?_
  refine fM rfl ?_
  refine Run.fin rfl (EndOk.go ?_); exact .t rfl
theorem leaf25_ok (H : Pr25 P) (ds : List Def) (gk : GK ds) (n : Str) : FnOk P 81 [docV ds, .t (.str n)] ⟨[], 0⟩ { v := .t (.bool (leafM ds n)) } := by
  refine FnOk.run H.i81 H.mixed rfl rfl ?_
  refine fR rfl ?_
  refine Mid.call (scalar_ok H.toPr n) rfl rfl rfl rfl ?_
  refine fM rfl ?_
  refine caG rfl rfl (fun hg => ⟨_, rfl, kind25_ok H ds gk n, rfl⟩) rfl rfl ?_
  refine fM rfl ?_
  refine Run.fin rfl (EndOk.go ?_); exact .t rfl

def resM (ds : List Def) (n f : Str) : Bool :=
  (((findDef n ds).isSome && (findField f ((findDef n ds).getD Def.zero).fields).isSome) && ((findDef n ds).getD Def.zero).kind == 1) && !hasD ([101, 120, 116, 101, 114, 110, 97, 108] : Str) ((findField f ((findDef n ds).getD Def.zero).fields).getD Field.zero).dirs
theorem resolves_ok (H : Pr25 P) (g : Graph) (gk : GK g.doc) (n f : Str) : FnOk P 108 [g.v, .t (.str n), .t (.str f)] ⟨[], 0⟩ { v := .t (.bool (resM g.doc n f)) } := by
  have hT := gk.find n
  have hF := hT.field f
  have hfl := hT.fl
  refine FnOk.run H.i108 H.mixed rfl rfl ?_
  refine fR rfl ?_
  refine Mid.call (find_ok H.toPr g.doc gk.len n) rfl rfl rfl rfl ?_
  refine fM rfl ?_
  refine Mid.call (fieldOf_ok H.toPr ((findDef n g.doc).getD Def.zero) (by omega) f) rfl rfl rfl rfl ?_
  refine fM rfl ?_
  refine caG rfl rfl (fun hg => ⟨_, rfl, hasD_ok H.toPr23 25 ((findField f ((findDef n g.doc).getD Def.zero).fields).getD Field.zero).dirs hF.d.len ([101, 120, 116, 101, 114, 110, 97, 108] : Str) (.inl rfl), rfl⟩) rfl rfl ?_
  refine fM rfl ?_
  refine Run.fin rfl (EndOk.go ?_); exact .t rfl

def othM (a : Nat) (n f : Str) : Nat → List Graph → Bool
  | _, [] => false
  | i, g :: r => (((i : Int) != (a : Int)) && resM g.doc n f) || othM a n f (i + 1) r
theorem others_ok (H : Pr25 P) (gs : List Graph) (hl : gs.length ≤ 140737488355328) (gk : ∀ g, g ∈ gs → GK g.doc) (out : List Fault) (a : Nat) (n f : Str) : FnOk P 84 [.ptr 0 0, .t (.int .i64 a), .t (.str n), .t (.str f)] ⟨[(0, .cells [.t (.lst (gs.map Graph.enc)), .own 1 2 (out.map Fault.enc)]), (1, .arr out.length)], 2⟩ { v := .t (.bool (othM a n f 0 gs)), rd := true } := by
  refine FnOk.run H.i84 H.mixed rfl rfl ?_
  refine fR rfl ?_
  refine lM rfl rfl rfl ?_
  refine fM rfl ?_
  refine rList gs (fun i (_ : Unit) => { env := [(1, .t (.int .i64 a)), (2, .t (.str n)), (3, .t (.str f)), (14, .t (.lst (gs.map Graph.enc))), (15, .t (.int .i64 gs.length)), (16, .t (.int .i64 i))], s := ⟨[(0, .cells [.t (.lst (gs.map Graph.enc)), .own 1 2 (out.map Fault.enc)]), (1, .arr out.length)], 2⟩ }) (fun r i _ => othM a n f 0 gs = othM a n f i r) 2 () rfl rfl rfl rfl rfl ?_ ?_
  · intro _ hinv
    refine fR rfl ?_
    refine Run.condF rfl rfl (by simp) ?_
    refine fR rfl ?_
    refine Run.fin rfl (EndOk.sameX rfl rfl rfl (by first | exact rfl | exact nSto_bd | exact tSto_bd) (.t ((by rw [hinv]; rfl))))
  · intro i g r _ h1 hi hd hinv ih
    have hgg := gk g (List.mem_of_getElem? h1)
    refine fR rfl ?_
    refine Run.condT rfl rfl (by simp; omega) ?_
    refine fR rfl ?_
    refine Mid.elemMap rfl rfl rfl h1 rfl rfl ?_
    refine fM rfl ?_
    refine caG rfl rfl (fun hg => ⟨_, rfl, resolves_ok H g hgg n f, rfl⟩) rfl rfl ?_
    refine fM rfl ?_
    refine Run.cond rfl rfl (fun hc => ?_) (fun hc => ?_)
    · have hc' : (((i : Int) != (a : Int)) && resM g.doc n f) = true := hc
      refine fR rfl ?_
      refine Run.fin rfl (EndOk.sameX rfl rfl rfl (by first | exact rfl | exact nSto_bd | exact tSto_bd) (.t ((by rw [hinv, othM, hc']; rfl))))
    · have hc' : (((i : Int) != (a : Int)) && resM g.doc n f) = false := hc
      refine fR rfl ?_
      refine aL rfl rfl rfl rfl rfl ?_
      refine fM rfl ?_
      exact rWeak 2 rfl (ih () (by rw [hinv, othM, hc']; rfl)) rfl rfl rfl

/-- a name that is not an external field without arguments, of a leaf type -/
def outB (ds : List Def) (t : Def) (n : Str) : Bool :=
  ((!(findField n t.fields).isSome || !hasD ([101, 120, 116, 101, 114, 110, 97, 108] : Str) ((findField n t.fields).getD Field.zero).dirs) || decide ((((findField n t.fields).getD Field.zero).args.length : Int) > 0)) || !leafM ds ((findField n t.fields).getD Field.zero).ty.name
def outM (ds : List Def) (t : Def) (l : List Str) : Bool := !l.any (outB ds t) && decide ((l.length : Int) > 0)
theorem outside_ok (H : Pr25 P) (g : Graph) (gk : GK g.doc) (t : Def) (ht : TK t) (l : List Str) (hl : l.length ≤ 140737488355328) : FnOk P 86 [g.v, t.v, .t (.lst (l.map sE))] ⟨[], 0⟩ { v := .t (.bool (outM g.doc t l)) } := by
  have hfl := ht.fl
  refine FnOk.run H.i86 H.mixed rfl rfl ?_
  refine fR rfl ?_
  refine lM rfl rfl rfl ?_
  refine fM rfl ?_
  refine rList l (fun i (_ : Unit) => { env := [(2, .t (.lst (l.map sE))), (3, .ptr 0 0), (4, .ptr 1 0), (11, .t (.lst (l.map sE))), (12, .t (.int .i64 l.length)), (13, .t (.int .i64 i))], s := ⟨[(0, .cells [.t (.str g.name), .t (.lst (g.doc.map Def.enc))]), (1, (.cells [.t (.int .i64 t.kind), .t (.str t.name), .t (.lst (t.implements.map sE)), .t (.lst (t.dirs.map Dir.enc)), .t (.lst (t.fields.map Field.enc)), .t (.lst (t.members.map Member.enc)), .t (.lst (t.inputs.map Input.enc))]))], 2⟩ }) (fun r i _ => l.any (outB g.doc t) = r.any (outB g.doc t)) 2 () rfl rfl rfl rfl rfl ?_ ?_
  · intro _ hinv
    refine fR rfl ?_
    refine Run.condF rfl rfl (by simp) ?_
    refine fR rfl ?_
    refine lM rfl rfl rfl ?_
    refine fM rfl ?_
    refine Run.fin rfl (EndOk.go ?_); exact .t (by unfold outM; rw [hinv]; rfl)
  · intro i n r _ h1 hi hd hinv ih
    have hF := ht.field n
    have hal := hF.al
    refine fR rfl ?_
    refine Run.condT rfl rfl (by simp; omega) ?_
    refine fR rfl ?_
    refine Mid.elemMap rfl rfl rfl h1 rfl rfl ?_
    refine fM rfl ?_
    refine Mid.call (fieldOf_ok H.toPr t (by omega) n) rfl rfl rfl rfl ?_
    refine fM rfl ?_
    refine caG rfl rfl (fun hg => ⟨_, rfl, hasD_ok H.toPr23 25 ((findField n t.fields).getD Field.zero).dirs hF.d.len ([101, 120, 116, 101, 114, 110, 97, 108] : Str) (.inl rfl), rfl⟩) rfl rfl ?_
    refine fM rfl ?_
    refine lMG rfl rfl rfl rfl ?_
    refine fM rfl ?_
    refine caG rfl rfl (fun hg => ⟨_, rfl, leaf25_ok H g.doc gk ((findField n t.fields).getD Field.zero).ty.name, rfl⟩) rfl rfl ?_
    refine fM rfl ?_
    refine Run.cond rfl rfl (fun hc => ?_) (fun hc => ?_)
    · have hc' : outB g.doc t n = true := hc
      refine fR rfl ?_
      refine Run.fin rfl (EndOk.go ?_); exact .t (by unfold outM; rw [hinv, List.any_cons, hc']; rfl)
    · have hc' : outB g.doc t n = false := hc
      refine fR rfl ?_
      refine aL rfl rfl rfl rfl rfl ?_
      refine fM rfl ?_
      exact rWeak 2 rfl (ih () (by rw [hinv, List.any_cons, hc']; rfl)) rfl rfl rfl
end Go.GB.C23


/-
  F25C: moves: fields that are mentioned in a graph, and fields that graphs lean on.
-/
namespace Go.GB.C23
open Go.GB Go.GB.C11
set_option linter.unusedSimpArgs false
set_option linter.unusedVariables false
set_option maxRecDepth 100000
set_option maxHeartbeats 4000000
variable {P : Program}

/-- a field that another one requires -/
def reqM (f : Str) (l : List Field) : Bool := l.any fun x => decide (f ∈ setM x.dirs ([114, 101, 113, 117, 105, 114, 101, 115] : Str))
theorem leant1_ok (H : Pr25 P) (x : Field) (hx : FK x) (f : Str) : FnOk P 110 [x.v, .ptr 0 0] ⟨[(0, .cells [.t (.str f)])], 1⟩ { v := .t (.bool (decide (f ∈ setM x.dirs ([114, 101, 113, 117, 105, 114, 101, 115] : Str)))), rd := true } := by
  have hs := setM_le x.dirs ([114, 101, 113, 117, 105, 114, 101, 115] : Str)
  refine FnOk.run H.i110 H.mixed rfl rfl ?_
  refine fR rfl ?_
  refine Mid.call (set_ok H x.dirs hx.d ([114, 101, 113, 117, 105, 114, 101, 115] : Str)) rfl rfl rfl rfl ?_
  refine fM rfl ?_
  refine Mid.call (contains_ok H.toPr (setM x.dirs ([114, 101, 113, 117, 105, 114, 101, 115] : Str)) (by omega) f) rfl rfl rfl rfl ?_
  refine fM rfl ?_
  refine Run.fin rfl (EndOk.sameX rfl rfl rfl (by first | exact rfl | exact nSto_bd | exact tSto_bd) (.t (rfl)))
theorem indexFL_ok (H : Pr25 P) (l : List Field) (hl : l.length ≤ 140737488355328) (hx : ∀ x, x ∈ l → FK x) (f : Str) : FnOk P 127 [.t (.lst (l.map Field.enc)), .fn 110 [(0, 0)]] ⟨[(0, .cells [.t (.str f)])], 1⟩ { v := .t (.int .i64 (idxG (fun x => decide (f ∈ setM x.dirs ([114, 101, 113, 117, 105, 114, 101, 115] : Str))) 0 l)), rd := true } := by
  refine FnOk.run H.i127 H.mixed rfl rfl ?_
  refine fR rfl ?_
  refine lM rfl rfl rfl ?_
  refine fM rfl ?_
  refine rList l (fun i (_ : Unit) => { env := [(0, .t (.lst (l.map Field.enc))), (1, .fn 110 [(0, 0)]), (7, .t (.int .i64 l.length)), (8, .t (.int .i64 i))], s := ⟨[(0, .cells [.t (.str f)])], 1⟩ }) (fun r i _ => idxG (fun x => decide (f ∈ setM x.dirs ([114, 101, 113, 117, 105, 114, 101, 115] : Str))) 0 l = idxG (fun x => decide (f ∈ setM x.dirs ([114, 101, 113, 117, 105, 114, 101, 115] : Str))) i r) 1 () rfl rfl rfl rfl rfl ?_ ?_
  · intro _ hinv
    refine fR rfl ?_
    refine Run.condF rfl rfl (by simp) ?_
    refine fR rfl ?_
    refine Run.fin rfl (EndOk.sameX rfl rfl rfl (by first | exact rfl | exact nSto_bd | exact tSto_bd) (.t ((by rw [hinv]; rfl))))
  · intro i x r _ h1 hi hd hinv ih
    refine fR rfl ?_
    refine Run.condT rfl rfl (by simp; omega) ?_
    refine fR rfl ?_
    refine Mid.elemMap rfl rfl rfl h1 rfl rfl ?_
    refine fM rfl ?_
    refine Mid.callvS rfl (leant1_ok H x (hx x (List.mem_of_getElem? h1)) f) rfl rfl rfl rfl ?_
    refine fM rfl ?_
    refine Run.cond rfl rfl (fun hc => ?_) (fun hc => ?_)
    · refine fR rfl ?_
      refine Run.fin rfl (EndOk.sameX rfl rfl rfl (by first | exact rfl | exact nSto_bd | exact tSto_bd) (.t ((by rw [hinv]; simp only [idxG]; rw [if_pos hc]))))
    · refine fR rfl ?_
      refine aL rfl rfl rfl rfl rfl ?_
      refine fM rfl ?_
      have h' : ¬ decide (f ∈ setM x.dirs ([114, 101, 113, 117, 105, 114, 101, 115] : Str)) = true := by rw [hc]; simp
      exact rWeak 1 rfl (ih () (by rw [hinv]; simp only [idxG]; rw [if_neg h']; rfl)) rfl rfl rfl
theorem containsFL_ok (H : Pr25 P) (l : List Field) (hl : l.length ≤ 140737488355328) (hx : ∀ x, x ∈ l → FK x) (f : Str) : FnOk P 109 [.t (.lst (l.map Field.enc)), .fn 110 [(0, 0)]] ⟨[(0, .cells [.t (.str f)])], 1⟩ { v := .t (.bool (reqM f l)), rd := true } := by
  refine FnOk.run H.i109 H.mixed rfl rfl ?_
  refine fR rfl ?_
  refine Mid.callS (indexFL_ok H l hl hx f) rfl rfl (by first | exact rfl | exact nSto_bd | exact tSto_bd) rfl ?_
  refine fM rfl ?_
  refine Run.fin rfl (EndOk.sameX rfl rfl rfl (by first | exact rfl | exact nSto_bd | exact tSto_bd) (.t ((by unfold reqM; rw [← idxG_ge (fun x => decide (f ∈ setM x.dirs ([114, 101, 113, 117, 105, 114, 101, 115] : Str))) l 0 (by omega)]))))

/-- does a graph lean on a field? -/
def leaG (n f : Str) (g : Graph) : Bool := !(((findDef n g.doc).getD Def.zero).kind != 1) && (isKeyM ((findDef n g.doc).getD Def.zero).dirs f || reqM f ((findDef n g.doc).getD Def.zero).fields)
theorem leant_ok (H : Pr25 P) (gs : List Graph) (hl : gs.length ≤ 140737488355328) (gk : ∀ g, g ∈ gs → GK g.doc) (out : List Fault) (n f : Str) : FnOk P 85 [.ptr 0 0, .t (.str n), .t (.str f)] ⟨[(0, .cells [.t (.lst (gs.map Graph.enc)), .own 1 2 (out.map Fault.enc)]), (1, .arr out.length)], 2⟩ { v := .t (.bool (gs.any (leaG n f))), rd := true } := by
  refine FnOk.run H.i85 H.mixed rfl rfl ?_
  refine fR rfl ?_
  refine lM rfl rfl rfl ?_
  refine fM rfl ?_
  refine rList gs (fun i (_ : Unit) => { env := [(1, .t (.str n)), (5, .ptr 2 0), (14, .t (.lst (gs.map Graph.enc))), (15, .t (.int .i64 gs.length)), (16, .t (.int .i64 i))], s := ⟨[(0, .cells [.t (.lst (gs.map Graph.enc)), .own 1 2 (out.map Fault.enc)]), (1, .arr out.length), (2, .cells [.t (.str f)])], 3⟩ }) (fun r i _ => gs.any (leaG n f) = r.any (leaG n f)) 3 () rfl rfl rfl rfl rfl ?_ ?_
  · intro _ hinv
    refine fR rfl ?_
    refine Run.condF rfl rfl (by simp) ?_
    refine fR rfl ?_
    refine Run.fin rfl (EndOk.sameX rfl rfl rfl (by first | exact rfl | exact nSto_bd | exact tSto_bd) (.t ((by rw [hinv]; rfl))))
  · intro i g r _ h1 hi hd hinv ih
    have hgg := gk g (List.mem_of_getElem? h1)
    have hT := hgg.find n
    have hfl := hT.fl
    refine fR rfl ?_
    refine Run.condT rfl rfl (by simp; omega) ?_
    refine fR rfl ?_
    refine Mid.elemMap rfl rfl rfl h1 rfl rfl ?_
    refine fM rfl ?_
    refine Mid.call (find_ok H.toPr g.doc hgg.len n) rfl rfl rfl rfl ?_
    refine fM rfl ?_
    refine Run.cond rfl rfl (fun hk => ?_) (fun hk => ?_)
    · have hk' : (((findDef n g.doc).getD Def.zero).kind != 1) = true := hk
      refine fR rfl ?_
      refine aL rfl rfl rfl rfl rfl ?_
      refine fM rfl ?_
      exact rWeak 3 rfl (ih () (by rw [hinv, List.any_cons, show leaG n f g = false by unfold leaG; rw [hk']; rfl]; rfl)) rfl rfl rfl
    · have hk' : (((findDef n g.doc).getD Def.zero).kind != 1) = false := hk
      refine fR rfl ?_
      refine Mid.call (isKey_ok H ((findDef n g.doc).getD Def.zero) hT.d f) rfl rfl rfl rfl ?_
      refine fM rfl ?_
      refine Mid.callRG [2] rfl rfl (fun hg => ⟨_, containsFL_ok H ((findDef n g.doc).getD Def.zero).fields (by omega) hT.f f, rfl, rfl⟩) rfl (by simp [stoBd]; simp [AObj.bd, V.bds, V.bd]) (by repeat' (first | exact trivial | exact rfl | refine And.intro ?_ ?_ | exact (congrArg some (AObj.ren_mE _ _ _ _ _ _)).symm | exact (congrArg some (AObj.ren_cE _ _ _)).symm)) rfl ?_
      refine fM rfl ?_
      refine Run.cond rfl rfl (fun hc => ?_) (fun hc => ?_)
      · have hc' : leaG n f g = true := by unfold leaG; rw [hk']; exact hc
        refine fR rfl ?_
        refine Run.fin rfl (EndOk.sameX rfl rfl rfl (by first | exact rfl | exact nSto_bd | exact tSto_bd) (.t ((by rw [hinv, List.any_cons, hc']; rfl))))
      · have hc' : leaG n f g = false := by unfold leaG; rw [hk']; exact hc
        refine fR rfl ?_
        refine aL rfl rfl rfl rfl rfl ?_
        refine fM rfl ?_
        exact rWeak 3 rfl (ih () (by rw [hinv, List.any_cons, hc']; rfl)) rfl rfl rfl

/-- a field of a type that another field of that type provides -/
def prvM (f : Str) (n : Str) (k : Int) (y : Field) : Bool := (k == 1 && y.ty.name == n) && decide (f ∈ setM y.dirs ([112, 114, 111, 118, 105, 100, 101, 115] : Str))
def menM (ds : List Def) (t : Def) (f : Str) : Bool := isKeyM t.dirs f || (reqM f t.fields || ds.any fun x => x.fields.any (prvM f t.name x.kind))
theorem mentioned_ok (H : Pr25 P) (g : Graph) (gk : GK g.doc) (t : Def) (ht : TK t) (f : Str) : FnOk P 83 [g.v, t.v, .t (.str f)] ⟨[], 0⟩ { v := .t (.bool (menM g.doc t f)) } := by
  have hfl := ht.fl
  have hgl := gk.l
  refine FnOk.run H.i83 H.mixed rfl rfl ?_
  refine fR rfl ?_
  refine Mid.call (isKey_ok H t ht.d f) rfl rfl rfl rfl ?_
  refine fM rfl ?_
  refine Run.cond rfl rfl (fun h => ?_) (fun h => ?_)
  · have h' : isKeyM t.dirs f = true := h
    refine fR rfl ?_
    refine Run.fin rfl (EndOk.go ?_); exact .t (by unfold menM; rw [h']; rfl)
  · have h' : isKeyM t.dirs f = false := h
    have e0 : menM g.doc t f = (reqM f t.fields || g.doc.any fun x => x.fields.any (prvM f t.name x.kind)) := by unfold menM; rw [h']; rfl
    rw [e0]
    refine fR rfl ?_
    refine lM rfl rfl rfl ?_
    refine fM rfl ?_
    refine rList t.fields (fun i (_ : Unit) => { env := [(2, .t (.str f)), (3, .ptr 0 0), (4, .ptr 1 0), (17, .t (.lst (t.fields.map Field.enc))), (18, .t (.int .i64 t.fields.length)), (19, .t (.int .i64 i))], s := ⟨[(0, .cells [.t (.str g.name), .t (.lst (g.doc.map Def.enc))]), (1, (.cells [.t (.int .i64 t.kind), .t (.str t.name), .t (.lst (t.implements.map sE)), .t (.lst (t.dirs.map Dir.enc)), .t (.lst (t.fields.map Field.enc)), .t (.lst (t.members.map Member.enc)), .t (.lst (t.inputs.map Input.enc))]))], 2⟩ }) (fun r i _ => reqM f t.fields = reqM f r) 2 () rfl rfl rfl rfl rfl ?_ ?_
    · intro _ hinv
      have hinv' : reqM f t.fields = false := hinv
      rw [hinv', Bool.false_or]
      refine fR rfl ?_
      refine Run.condF rfl rfl (by simp) ?_
      refine fR rfl ?_
      refine lM rfl rfl rfl ?_
      refine fM rfl ?_
      refine rList g.doc (fun i (_ : Unit) => { env := [(2, .t (.str f)), (4, .ptr 1 0), (31, .t (.lst (g.doc.map Def.enc))), (32, .t (.int .i64 g.doc.length)), (33, .t (.int .i64 i))], s := ⟨[(1, (.cells [.t (.int .i64 t.kind), .t (.str t.name), .t (.lst (t.implements.map sE)), .t (.lst (t.dirs.map Dir.enc)), .t (.lst (t.fields.map Field.enc)), .t (.lst (t.members.map Member.enc)), .t (.lst (t.inputs.map Input.enc))]))], 2⟩ }) (fun r i _ => (g.doc.any fun x => x.fields.any (prvM f t.name x.kind)) = r.any fun x => x.fields.any (prvM f t.name x.kind)) 2 () rfl rfl rfl rfl rfl ?_ ?_
      · intro _ hinv2
        refine fR rfl ?_
        refine Run.condF rfl rfl (by simp) ?_
        refine fR rfl ?_
        refine Run.fin rfl (EndOk.go ?_); exact .t (by rw [hinv2]; rfl)
      · intro i x r _ h1 hi hd hinv2 ih
        have hx := gk.t x (List.mem_of_getElem? h1)
        have hxl := hx.fl
        refine fR rfl ?_
        refine Run.condT rfl rfl (by simp; omega) ?_
        refine fR rfl ?_
        refine Mid.elemMap rfl rfl rfl h1 rfl rfl ?_
        refine fM rfl ?_
        refine lM rfl rfl rfl ?_
        refine fM rfl ?_
        refine rList x.fields (fun j (_ : Unit) => { env := [(2, .t (.str f)), (4, .ptr 1 0), (10, .ptr 2 0), (31, .t (.lst (g.doc.map Def.enc))), (32, .t (.int .i64 g.doc.length)), (33, .t (.int .i64 i)), (38, .t (.lst (x.fields.map Field.enc))), (39, .t (.int .i64 x.fields.length)), (40, .t (.int .i64 j))], s := ⟨[(1, (.cells [.t (.int .i64 t.kind), .t (.str t.name), .t (.lst (t.implements.map sE)), .t (.lst (t.dirs.map Dir.enc)), .t (.lst (t.fields.map Field.enc)), .t (.lst (t.members.map Member.enc)), .t (.lst (t.inputs.map Input.enc))])), (2, (.cells [.t (.int .i64 x.kind), .t (.str x.name), .t (.lst (x.implements.map sE)), .t (.lst (x.dirs.map Dir.enc)), .t (.lst (x.fields.map Field.enc)), .t (.lst (x.members.map Member.enc)), .t (.lst (x.inputs.map Input.enc))]))], 3⟩ }) (fun r2 j _ => (g.doc.any fun x => x.fields.any (prvM f t.name x.kind)) = (r2.any (prvM f t.name x.kind) || r.any fun x => x.fields.any (prvM f t.name x.kind))) 3 () rfl (by rw [hinv2, List.any_cons]) rfl rfl rfl ?_ ?_
        · intro _ hinv3
          refine fR rfl ?_
          refine Run.condF rfl rfl (by simp) ?_
          refine fR rfl ?_
          refine aL rfl rfl rfl rfl rfl ?_
          refine fM rfl ?_
          exact rWeak 2 rfl (ih () (by rw [hinv3]; rfl)) rfl rfl rfl
        · intro j y r2 _ h2 hj hjd hinv3 ih3
          have hy := hx.f y (List.mem_of_getElem? h2)
          have hs := setM_le y.dirs ([112, 114, 111, 118, 105, 100, 101, 115] : Str)
          refine fR rfl ?_
          refine Run.condT rfl rfl (by simp; omega) ?_
          refine fR rfl ?_
          refine Mid.elemMap rfl rfl rfl h2 rfl rfl ?_
          refine fM rfl ?_
          refine caG rfl rfl (fun hg => ⟨_, rfl, set_ok H y.dirs hy.d ([112, 114, 111, 118, 105, 100, 101, 115] : Str), rfl⟩) rfl rfl ?_
          refine fM rfl ?_
          refine caG rfl rfl (fun hg => ⟨_, rfl, contains_ok H.toPr (setM y.dirs ([112, 114, 111, 118, 105, 100, 101, 115] : Str)) (by omega) f, rfl⟩) rfl rfl ?_
          refine fM rfl ?_
          refine Run.cond rfl rfl (fun hc => ?_) (fun hc => ?_)
          · have hc' : prvM f t.name x.kind y = true := hc
            refine fR rfl ?_
            refine Run.fin rfl (EndOk.go ?_); exact .t (by rw [hinv3, List.any_cons, hc']; rfl)
          · have hc' : prvM f t.name x.kind y = false := hc
            refine fR rfl ?_
            refine aL rfl rfl rfl rfl rfl ?_
            refine fM rfl ?_
            exact rWeak 3 rfl (ih3 () (by rw [hinv3, List.any_cons, hc']; rfl)) rfl rfl rfl
    · intro i x r _ h1 hi hd hinv ih
      have hx := ht.f x (List.mem_of_getElem? h1)
      have hs := setM_le x.dirs ([114, 101, 113, 117, 105, 114, 101, 115] : Str)
      refine fR rfl ?_
      refine Run.condT rfl rfl (by simp; omega) ?_
      refine fR rfl ?_
      refine Mid.elemMap rfl rfl rfl h1 rfl rfl ?_
      refine fM rfl ?_
      refine Mid.call (set_ok H x.dirs hx.d ([114, 101, 113, 117, 105, 114, 101, 115] : Str)) rfl rfl rfl rfl ?_
      refine fM rfl ?_
      refine Mid.call (contains_ok H.toPr (setM x.dirs ([114, 101, 113, 117, 105, 114, 101, 115] : Str)) (by omega) f) rfl rfl rfl rfl ?_
      refine fM rfl ?_
      refine Run.cond rfl rfl (fun hc => ?_) (fun hc => ?_)
      · have hc' : decide (f ∈ setM x.dirs ([114, 101, 113, 117, 105, 114, 101, 115] : Str)) = true := hc
        refine fR rfl ?_
        refine Run.fin rfl (EndOk.go ?_); exact .t (by rw [hinv, reqM, List.any_cons, hc']; rfl)
      · have hc' : decide (f ∈ setM x.dirs ([114, 101, 113, 117, 105, 114, 101, 115] : Str)) = false := hc
        refine fR rfl ?_
        refine aL rfl rfl rfl rfl rfl ?_
        refine fM rfl ?_
        exact rWeak 2 rfl (ih () (by rw [hinv, reqM, List.any_cons, hc']; rfl)) rfl rfl rfl
end Go.GB.C23


/-
  F25D: moves: violations of keys.
-/
namespace Go.GB.C23
open Go.GB Go.GB.C11
set_option linter.unusedSimpArgs false
set_option linter.unusedVariables false
set_option maxRecDepth 100000
set_option maxHeartbeats 4000000
variable {P : Program}

def ifM (c : Bool) (x : Fault) : List Fault := if c then [x] else []
theorem ifM_len (c : Bool) (x : Fault) : (ifM c x).length ≤ 1 := by cases c <;> simp [ifM]
theorem add25T_ok (H : Pr25 P) (gs : List Graph) (out : List Fault) (hl : out.length ≤ 4398046511104) (e : Int) (g : Graph) (a : Str) (hn : g.name.length ≤ 140737488355328) (ha : a.length ≤ 1125899906842624) : FnOk P 82 [.ptr 0 0, .t (.bool true), .t (.int .i64 e), g.v, .t (.str a)] ⟨[(0, .cells [.t (.lst (gs.map Graph.enc)), .own 1 2 (List.map Fault.enc (out))]), (1, .arr (out).length)], 2⟩ { v := .tup [], ob := [(0, .cells [.t (.lst (gs.map Graph.enc)), .own 1 2 (List.map Fault.enc (out ++ [(⟨e, g.name ++ [58] ++ a⟩ : Fault)]))]), (1, .arr (out ++ [(⟨e, g.name ++ [58] ++ a⟩ : Fault)]).length)], rd := true } := by
  refine FnOk.run H.i82 H.mixed rfl rfl ?_
  refine fR rfl ?_
  refine Run.condT rfl rfl rfl ?_
  refine fR rfl ?_
  refine pu rfl ?_
  refine fM rfl ?_
  refine pu rfl ?_
  refine fM rfl ?_
  refine apM Fault.enc out [(⟨e, g.name ++ [58] ++ a⟩ : Fault)] rfl rfl rfl rfl rfl ?_ (h1 := by first | omega | (simp; omega) | (simp; done)) (h2 := by first | omega | (simp; omega) | (simp; done))
  refine fM rfl ?_
  refine Run.fin rfl (EndOk.chg rfl rfl ?_ ?_)
  · exact .le (.same rfl)
  · exact (by repeat' (first | exact trivial | exact LeX.t | exact LeX.top | exact LeX.nilOwn (Nat.le_of_ble_eq_true rfl) (Nat.le_of_ble_eq_true rfl) | exact LeX.ownT | exact LeX.nilT | exact LeX.same rfl | exact LeX.tEq (by simp) | exact LeX.ownEq (by simp) (Nat.le_of_ble_eq_true rfl) | exact LeX.tEq (by congr 1 <;> omega) | exact Or.inr ⟨Nat.le_of_ble_eq_true rfl, Nat.le_of_ble_eq_true rfl, rfl⟩ | refine Or.inl ⟨Nat.le_of_ble_eq_true rfl, _, rfl, ?_⟩ | refine LeO.cells ?_ | exact LeO.arr rfl | exact LeO.arr (by simp) | exact LeO.mE (by first | rfl | simp) (by first | exact Or.inl rfl | exact Or.inr rfl) | exact LeO.cE (by first | rfl | simp) | exact LeXs.cE (by first | rfl | simp) | refine LeO.map (by first | rfl | simp) ?_ (by first | exact Or.inl rfl | exact Or.inr rfl) | exact LeO.iter (by first | rfl | simp) (Nat.le_of_ble_eq_true rfl) | refine LeXs.cons ?_ ?_ | exact LeXs.nil | refine And.intro ?_ ?_))
theorem add25F_ok (H : Pr25 P) (gs : List Graph) (out : List Fault) (e : Int) (g : Graph) (a : Str) : FnOk P 82 [.ptr 0 0, .t (.bool false), .t (.int .i64 e), g.v, .t (.str a)] ⟨[(0, .cells [.t (.lst (gs.map Graph.enc)), .own 1 2 (List.map Fault.enc (out))]), (1, .arr (out).length)], 2⟩ { v := .tup [], ob := [(0, .cells [.t (.lst (gs.map Graph.enc)), .own 1 2 (List.map Fault.enc (out))]), (1, .arr (out).length)], rd := true } := by
  refine FnOk.run H.i82 H.mixed rfl rfl ?_
  refine fR rfl ?_
  refine Run.condF rfl rfl rfl ?_
  skip
  refine Run.fin rfl (EndOk.chg rfl rfl ?_ ?_)
  · exact .le (.same rfl)
  · exact (by repeat' (first | exact trivial | exact LeX.t | exact LeX.top | exact LeX.nilOwn (Nat.le_of_ble_eq_true rfl) (Nat.le_of_ble_eq_true rfl) | exact LeX.ownT | exact LeX.nilT | exact LeX.same rfl | exact LeX.tEq (by simp) | exact LeX.ownEq (by simp) (Nat.le_of_ble_eq_true rfl) | exact LeX.tEq (by congr 1 <;> omega) | exact Or.inr ⟨Nat.le_of_ble_eq_true rfl, Nat.le_of_ble_eq_true rfl, rfl⟩ | refine Or.inl ⟨Nat.le_of_ble_eq_true rfl, _, rfl, ?_⟩ | refine LeO.cells ?_ | exact LeO.arr rfl | exact LeO.arr (by simp) | exact LeO.mE (by first | rfl | simp) (by first | exact Or.inl rfl | exact Or.inr rfl) | exact LeO.cE (by first | rfl | simp) | exact LeXs.cE (by first | rfl | simp) | refine LeO.map (by first | rfl | simp) ?_ (by first | exact Or.inl rfl | exact Or.inr rfl) | exact LeO.iter (by first | rfl | simp) (Nat.le_of_ble_eq_true rfl) | refine LeXs.cons ?_ ?_ | exact LeXs.nil | refine And.intro ?_ ?_))
theorem add25_ok (H : Pr25 P) (gs : List Graph) (out : List Fault) (c : Bool) (e : Int) (g : Graph) (a : Str) (hn : g.name.length ≤ 140737488355328) (ha : a.length ≤ 1125899906842624) (hl : out.length ≤ 4398046511104) : FnOk P 82 [.ptr 0 0, .t (.bool c), .t (.int .i64 e), g.v, .t (.str a)] ⟨[(0, .cells [.t (.lst (gs.map Graph.enc)), .own 1 2 (List.map Fault.enc (out))]), (1, .arr (out).length)], 2⟩ { v := .tup [], ob := [(0, .cells [.t (.lst (gs.map Graph.enc)), .own 1 2 (List.map Fault.enc (out ++ ifM c ⟨e, g.name ++ [58] ++ a⟩))]), (1, .arr (out ++ ifM c ⟨e, g.name ++ [58] ++ a⟩).length)], rd := true } := by
  cases c with
  | true => exact add25T_ok H gs out hl e g a hn ha
  | false => rw [show out ++ ifM false ⟨e, g.name ++ [58] ++ a⟩ = out from List.append_nil _]; exact add25F_ok H gs out e g a

/- keys -/
def rootB (n : Str) : Bool := (n == [81, 117, 101, 114, 121] || n == [77, 117, 116, 97, 116, 105, 111, 110]) || n == [83, 117, 98, 115, 99, 114, 105, 112, 116, 105, 111, 110]
/-- a type that is not null, of a leaf type -/
def plainM (ds : List Def) (x : Field) : Bool := (match x.ty.wraps with | [w] => w == 1 | _ => false) && leafM ds x.ty.name
def keyN (ds : List Def) (t : Def) (b : Bool) (n : Str) : Bool :=
  ((b || !(findField n t.fields).isSome) || decide ((((findField n t.fields).getD Field.zero).args.length : Int) > 0)) || !plainM ds ((findField n t.fields).getD Field.zero)
def keyB (ds : List Def) (t : Def) (i : Nat) (k : List Str) : Bool := k.foldl (keyN ds t) ((decide ((i : Int) ≥ 4) || rootB t.name) || ((k.length : Int) == 0))
def keyL (g : Graph) (t : Def) : Nat → List (List Str) → List Fault
  | _, [] => []
  | i, k :: r => ifM (keyB g.doc t i k) ⟨41, g.name ++ [58] ++ t.name⟩ ++ keyL g t (i + 1) r
theorem keys_ok (H : Pr25 P) (gs : List Graph) (g : Graph) (gk : GK g.doc) (gn : g.name.length ≤ 140737488355328) (t : Def) (ht : TK t) (out : List Fault) (hl : out.length ≤ 2199023255552) : FnOk P 61 [.ptr 0 0, g.v, t.v] ⟨[(0, .cells [.t (.lst (gs.map Graph.enc)), .own 1 2 (List.map Fault.enc (out))]), (1, .arr (out).length)], 2⟩ { v := .tup [], ob := [(0, .cells [.t (.lst (gs.map Graph.enc)), .own 1 2 (List.map Fault.enc (out ++ keyL g t 0 (keysD t.dirs)))]), (1, .arr (out ++ keyL g t 0 (keysD t.dirs)).length)], rd := true } := by
  have hfl := ht.fl
  have hdl := ht.d.l
  have hkl := keysD_len t.dirs
  have hkm := fun k (h : k ∈ keysD t.dirs) => keysD_mem h
  have hko := keysOf_ok H t ht.d
  generalize keysD t.dirs = K at hkl hkm hko
  have hR : ∀ R, out ++ keyL g t 0 K = R → FnOk P 61 [.ptr 0 0, g.v, t.v] ⟨[(0, .cells [.t (.lst (gs.map Graph.enc)), .own 1 2 (List.map Fault.enc (out))]), (1, .arr (out).length)], 2⟩ { v := .tup [], ob := [(0, .cells [.t (.lst (gs.map Graph.enc)), .own 1 2 (List.map Fault.enc (R))]), (1, .arr (R).length)], rd := true } := by
    intro R hR
    refine FnOk.run H.i61 H.mixed rfl rfl ?_
    refine fR rfl ?_
    refine Mid.call (hko) rfl rfl rfl rfl ?_
    refine lM rfl rfl rfl ?_
    refine fM rfl ?_
    refine rList K (fun i (B : List Fault) => { env := [(0, .ptr 0 0), (4, .ptr 2 0), (5, .ptr 3 0), (6, .t (.bool (rootB t.name))), (29, .t (.lst (K.map lE))), (30, .t (.int .i64 K.length)), (31, .t (.int .i64 i))], s := ⟨[(0, .cells [.t (.lst (gs.map Graph.enc)), .own 1 2 (List.map Fault.enc (B))]), (1, .arr B.length), (2, (.cells [.t (.str g.name), .t (.lst (g.doc.map Def.enc))])), (3, (.cells [.t (.int .i64 t.kind), .t (.str t.name), .t (.lst (t.implements.map sE)), .t (.lst (t.dirs.map Dir.enc)), .t (.lst (t.fields.map Field.enc)), .t (.lst (t.members.map Member.enc)), .t (.lst (t.inputs.map Input.enc))]))], 4⟩ }) (fun r i B => B.length ≤ out.length + i ∧ B ++ keyL g t i r = R) 4 out rfl ⟨by simp, hR⟩ rfl rfl rfl ?_ ?_
    · rintro B ⟨_, hB⟩
      obtain rfl : B = R := by rw [← hB]; simp [keyL]
      refine fR rfl ?_
      refine Run.condF rfl rfl (by simp) ?_
      skip
      refine Run.fin rfl (EndOk.chg rfl rfl ?_ ?_)
      · exact .le (.same rfl)
      · exact (by repeat' (first | exact trivial | exact LeX.t | exact LeX.top | exact LeX.nilOwn (Nat.le_of_ble_eq_true rfl) (Nat.le_of_ble_eq_true rfl) | exact LeX.ownT | exact LeX.nilT | exact LeX.same rfl | exact LeX.tEq (by simp) | exact LeX.ownEq (by simp) (Nat.le_of_ble_eq_true rfl) | exact LeX.tEq (by congr 1 <;> omega) | exact Or.inr ⟨Nat.le_of_ble_eq_true rfl, Nat.le_of_ble_eq_true rfl, rfl⟩ | refine Or.inl ⟨Nat.le_of_ble_eq_true rfl, _, rfl, ?_⟩ | refine LeO.cells ?_ | exact LeO.arr rfl | exact LeO.arr (by simp) | exact LeO.mE (by first | rfl | simp) (by first | exact Or.inl rfl | exact Or.inr rfl) | exact LeO.cE (by first | rfl | simp) | exact LeXs.cE (by first | rfl | simp) | refine LeO.map (by first | rfl | simp) ?_ (by first | exact Or.inl rfl | exact Or.inr rfl) | exact LeO.iter (by first | rfl | simp) (Nat.le_of_ble_eq_true rfl) | refine LeXs.cons ?_ ?_ | exact LeXs.nil | refine And.intro ?_ ?_))
    · rintro i k r B h1 hi hd ⟨hBl, hB⟩ ih
      have hBl' : B.length ≤ out.length + i := hBl
      have hB2 : B ++ (ifM (keyB g.doc t i k) ⟨41, g.name ++ [58] ++ t.name⟩ ++ keyL g t (i + 1) r) = R := hB
      have hk := hkm k (List.mem_of_getElem? h1)
      refine fR rfl ?_
      refine Run.condT rfl rfl (by simp; omega) ?_
      refine fR rfl ?_
      refine Mid.elemMap rfl rfl rfl h1 rfl rfl ?_
      refine fM rfl ?_
      refine lMG rfl rfl rfl rfl ?_
      refine fM rfl ?_
      refine lM rfl rfl rfl ?_
      refine fM rfl ?_
      refine rList k (fun j (b : Bool) => { env := [(0, .ptr 0 0), (4, .ptr 2 0), (5, .ptr 3 0), (6, .t (.bool (rootB t.name))), (9, .t (.bool b)), (29, .t (.lst (K.map lE))), (30, .t (.int .i64 K.length)), (31, .t (.int .i64 i)), (46, .t (.lst (k.map sE))), (47, .t (.int .i64 k.length)), (48, .t (.int .i64 j))], s := ⟨[(0, .cells [.t (.lst (gs.map Graph.enc)), .own 1 2 (List.map Fault.enc (B))]), (1, .arr B.length), (2, (.cells [.t (.str g.name), .t (.lst (g.doc.map Def.enc))])), (3, (.cells [.t (.int .i64 t.kind), .t (.str t.name), .t (.lst (t.implements.map sE)), .t (.lst (t.dirs.map Dir.enc)), .t (.lst (t.fields.map Field.enc)), .t (.lst (t.members.map Member.enc)), .t (.lst (t.inputs.map Input.enc))]))], 4⟩ }) (fun r2 j b => keyB g.doc t i k = r2.foldl (keyN g.doc t) b) 4 ((decide ((i : Int) ≥ 4) || rootB t.name) || ((k.length : Int) == 0)) rfl rfl rfl rfl rfl ?_ ?_
      · rintro b hb
        have hb' : keyB g.doc t i k = b := hb
        rw [hb'] at hB2
        have ha := ifM_len b ⟨41, g.name ++ [58] ++ t.name⟩
        refine fR rfl ?_
        refine Run.condF rfl rfl (by simp) ?_
        refine fR rfl ?_
        refine Mid.callR [0, 1] (add25_ok H gs B b 41 g t.name gn (by have := ht.nm; omega) (by omega)) rfl rfl rfl rfl (by simp [stoBd]; simp [AObj.bd, V.bds, V.bd]) (by repeat' (first | exact trivial | exact rfl | refine And.intro ?_ ?_ | exact (congrArg some (AObj.ren_mE _ _ _ _ _ _)).symm | exact (congrArg some (AObj.ren_cE _ _ _)).symm)) rfl rfl (ob' := [(0, .cells [.t (.lst (gs.map Graph.enc)), .own 1 2 (List.map Fault.enc (B ++ ifM b ⟨41, g.name ++ [58] ++ t.name⟩))]), (1, .arr (B ++ ifM b ⟨41, g.name ++ [58] ++ t.name⟩).length)]) (rfl) rfl rfl ?_
        refine fM rfl ?_
        refine aL rfl rfl rfl rfl rfl ?_
        refine fM rfl ?_
        generalize ifM b ⟨41, g.name ++ [58] ++ t.name⟩ = N1 at ha hB2
        exact rWeak 4 rfl (ih (B ++ N1) ⟨by simp; omega, by rw [← hB2]; simp⟩) rfl rfl rfl
      · rintro j n r2 b h2 hj hd2 hb ih2
        have hb' : keyB g.doc t i k = r2.foldl (keyN g.doc t) (keyN g.doc t b n) := hb
        have hF := ht.field n
        have hal := hF.al
        have hwl := hF.w
        unfold keyN at hb'
        refine fR rfl ?_
        refine Run.condT rfl rfl (by simp; omega) ?_
        refine fR rfl ?_
        refine Mid.elemMap rfl rfl rfl h2 rfl rfl ?_
        refine fM rfl ?_
        refine Mid.call (fieldOf_ok H.toPr t (by omega) n) rfl rfl rfl rfl ?_
        refine fM rfl ?_
        refine lM rfl rfl rfl ?_
        refine fM rfl ?_
        unfold plainM at hb'
        generalize (findField n t.fields).getD Field.zero = F at hF hal hwl hb' ⊢
        generalize (findField n t.fields).isSome = ok at hb' ⊢
        by_cases hw : F.ty.wraps.length = 1
        · obtain ⟨w, hw'⟩ := List.length_eq_one_iff.1 hw
          rw [hw'] at hb'
          have h0 : F.ty.wraps[0]? = some w := by rw [hw']; rfl
          have e1 : ((F.ty.wraps.length : Int) == 1) = true := by rw [hw]; rfl
          rw [e1]
          skip
          refine elG rfl rfl rfl rfl h0 rfl rfl ?_
          refine fM rfl ?_
          refine caG rfl rfl (fun hg => ⟨_, rfl, leaf25_ok H g.doc gk F.ty.name, rfl⟩) rfl rfl ?_
          refine fM rfl ?_
          refine lMG rfl rfl rfl rfl ?_
          refine fM rfl ?_
          refine aL rfl rfl rfl rfl rfl ?_
          refine fM rfl ?_
          exact rWeak 4 rfl (ih2 (((b || !ok) || decide ((F.args.length : Int) > 0)) || !((w == 1) && leafM g.doc F.ty.name)) hb') rfl rfl rfl
        · have e1 : ((F.ty.wraps.length : Int) == 1) = false := by simp; omega
          have e2 : (match F.ty.wraps with | [w] => w == 1 | _ => false) = false := by
            cases hc : F.ty.wraps with
            | nil => rfl
            | cons a l => cases l with
              | nil => rw [hc] at hw; exact absurd rfl hw
              | cons => rfl
          rw [e2] at hb'
          rw [e1]
          cases hc : F.ty.wraps with
          | nil =>
            refine Mid.grdF rfl rfl rfl rfl rfl ?_
            refine Mid.grdF rfl rfl rfl rfl rfl ?_
            refine Mid.grdF rfl rfl rfl rfl rfl ?_
            refine fM rfl ?_
            refine Mid.grdF rfl rfl rfl rfl rfl ?_
            refine fM rfl ?_
            refine lMG rfl rfl rfl rfl ?_
            refine fM rfl ?_
            refine aL rfl rfl rfl rfl rfl ?_
            refine fM rfl ?_
            exact rWeak 4 rfl (ih2 (((b || !ok) || decide ((F.args.length : Int) > 0)) || !false) hb') rfl rfl rfl
          | cons a l =>
            refine gr rfl ?_
            refine fM rfl ?_
            refine Mid.grdF rfl rfl rfl rfl rfl ?_
            refine fM rfl ?_
            refine lMG rfl rfl rfl rfl ?_
            refine fM rfl ?_
            refine aL rfl rfl rfl rfl rfl ?_
            refine fM rfl ?_
            exact rWeak 4 rfl (ih2 (((b || !ok) || decide ((F.args.length : Int) > 0)) || !false) hb') rfl rfl rfl
  exact hR _ rfl
end Go.GB.C23


/-
  F25E: moves: violations of fields.
-/
namespace Go.GB.C23
open Go.GB Go.GB.C11
set_option linter.unusedSimpArgs false
set_option linter.unusedVariables false
set_option maxRecDepth 100000
set_option maxHeartbeats 4000000
variable {P : Program}

def placeM (g : Graph) (t : Def) (x : Field) : Str := g.name ++ [58] ++ (t.name ++ [46] ++ x.name)
def c1M (gs : List Graph) (a : Nat) (g : Graph) (t : Def) (x : Field) : Bool := hasD ([101, 120, 116, 101, 114, 110, 97, 108] : Str) x.dirs && (!menM g.doc t x.name || !othM a t.name x.name 0 gs)
def c2M (gs : List Graph) (g : Graph) (t : Def) (x : Field) : Bool := hasD ([114, 101, 113, 117, 105, 114, 101, 115] : Str) x.dirs && (((hasD ([101, 120, 116, 101, 114, 110, 97, 108] : Str) x.dirs || gs.any (leaG t.name x.name)) || (((keysD t.dirs).length : Int) == 0)) || !outM g.doc t (setM x.dirs ([114, 101, 113, 117, 105, 114, 101, 115] : Str)))
def c3M (g : Graph) (x : Field) : Bool := (!(findDef x.ty.name g.doc).isSome || ((findDef x.ty.name g.doc).getD Def.zero).kind != 1) || !outM g.doc ((findDef x.ty.name g.doc).getD Def.zero) (setM x.dirs ([112, 114, 111, 118, 105, 100, 101, 115] : Str))
def c4M (gs : List Graph) (a : Nat) (t : Def) (x : Field) : Bool := (!hasD ([101, 120, 116, 101, 114, 110, 97, 108] : Str) x.dirs && othM a t.name x.name 0 gs) && (hasD ([114, 101, 113, 117, 105, 114, 101, 115] : Str) x.dirs || !(hasD ([115, 104, 97, 114, 101, 97, 98, 108, 101] : Str) x.dirs || isKeyM t.dirs x.name))
def fieldF (gs : List Graph) (a : Nat) (g : Graph) (t : Def) (x : Field) : List Fault :=
  ifM (c1M gs a g t x) ⟨42, placeM g t x⟩ ++ (ifM (c2M gs g t x) ⟨43, placeM g t x⟩ ++ ((if hasD ([112, 114, 111, 118, 105, 100, 101, 115] : Str) x.dirs = true then ifM (c3M g x) ⟨44, placeM g t x⟩ else []) ++ ifM (c4M gs a t x) ⟨40, placeM g t x⟩))
theorem field_ok (H : Pr25 P) (gs : List Graph) (hl : gs.length ≤ 140737488355328) (gk : ∀ g, g ∈ gs → GK g.doc) (gn : ∀ g, g ∈ gs → g.name.length ≤ 140737488355328) (a : Nat) (g : Graph) (ha : gs[a]? = some g) (t : Def) (ht : TK t) (x : Field) (hx : FK x) (out : List Fault) (hol : out.length ≤ 2199023255552) :
    FnOk P 63 [.ptr 0 0, .t (.int .i64 a), t.v, x.v] ⟨[(0, .cells [.t (.lst (gs.map Graph.enc)), .own 1 2 (List.map Fault.enc (out))]), (1, .arr (out).length)], 2⟩ { v := .tup [], ob := [(0, .cells [.t (.lst (gs.map Graph.enc)), .own 1 2 (List.map Fault.enc (out ++ fieldF gs a g t x))]), (1, .arr (out ++ fieldF gs a g t x).length)], rd := true } := by
  have hgg := gk g (List.mem_of_getElem? ha)
  have hT := hgg.find x.ty.name
  have hdl := ht.d.l
  have hkl := keysD_len t.dirs
  have hgn := gn g (List.mem_of_getElem? ha)
  have hpl : (t.name ++ [46] ++ x.name).length ≤ 1125899906842624 := by have := ht.nm; have := hx.nm; simp; omega
  have htn := ht.nm
  have hxn := hx.nm
  have hs1 := setM_le x.dirs ([114, 101, 113, 117, 105, 114, 101, 115] : Str)
  have hs2 := setM_le x.dirs ([112, 114, 111, 118, 105, 100, 101, 115] : Str)
  have a1 := ifM_len (c1M gs a g t x) ⟨42, placeM g t x⟩
  have a2 := ifM_len (c2M gs g t x) ⟨43, placeM g t x⟩
  have a3 := ifM_len (c3M g x) ⟨44, placeM g t x⟩
  have a4 := ifM_len (c4M gs a t x) ⟨40, placeM g t x⟩
  have hR : ∀ R, out ++ fieldF gs a g t x = R → FnOk P 63 [.ptr 0 0, .t (.int .i64 a), t.v, x.v] ⟨[(0, .cells [.t (.lst (gs.map Graph.enc)), .own 1 2 (List.map Fault.enc (out))]), (1, .arr (out).length)], 2⟩ { v := .tup [], ob := [(0, .cells [.t (.lst (gs.map Graph.enc)), .own 1 2 (List.map Fault.enc (R))]), (1, .arr (R).length)], rd := true } := by
    intro R hR
    unfold fieldF at hR
    refine FnOk.run H.i63 H.mixed rfl rfl ?_
    refine fR rfl ?_
    refine Mid.elemMap rfl rfl rfl ha rfl rfl ?_
    refine fM rfl ?_
    refine pu rfl ?_
    refine fM rfl ?_
    refine pu rfl ?_
    refine fM rfl ?_
    refine Mid.call (hasD_ok H.toPr23 25 x.dirs hx.d.len ([101, 120, 116, 101, 114, 110, 97, 108] : Str) (.inl rfl)) rfl rfl rfl rfl ?_
    refine fM rfl ?_
    refine Mid.call (hasD_ok H.toPr23 25 x.dirs hx.d.len ([114, 101, 113, 117, 105, 114, 101, 115] : Str) (.inl rfl)) rfl rfl rfl rfl ?_
    refine fM rfl ?_
    refine caG rfl rfl (fun hg => ⟨_, rfl, mentioned_ok H g hgg t ht x.name, rfl⟩) rfl rfl ?_
    refine fM rfl ?_
    refine Mid.callRG [0, 1] rfl rfl (fun hg => ⟨_, others_ok H gs hl gk out a t.name x.name, rfl, rfl⟩) rfl (by simp [stoBd]; simp [AObj.bd, V.bds, V.bd]) (by repeat' (first | exact trivial | exact rfl | refine And.intro ?_ ?_ | exact (congrArg some (AObj.ren_mE _ _ _ _ _ _)).symm | exact (congrArg some (AObj.ren_cE _ _ _)).symm)) rfl ?_
    refine fM rfl ?_
    refine Mid.callR [0, 1] (add25_ok H gs out (c1M gs a g t x) 42 g (t.name ++ [46] ++ x.name) hgn hpl (by omega)) rfl rfl rfl rfl (by simp [stoBd]; simp [AObj.bd, V.bds, V.bd]) (by repeat' (first | exact trivial | exact rfl | refine And.intro ?_ ?_ | exact (congrArg some (AObj.ren_mE _ _ _ _ _ _)).symm | exact (congrArg some (AObj.ren_cE _ _ _)).symm)) rfl rfl (ob' := [(0, .cells [.t (.lst (gs.map Graph.enc)), .own 1 2 (List.map Fault.enc (out ++ ifM (c1M gs a g t x) ⟨42, placeM g t x⟩))]), (1, .arr (out ++ ifM (c1M gs a g t x) ⟨42, placeM g t x⟩).length)]) (rfl) rfl rfl ?_
    refine fM rfl ?_
    generalize ifM (c1M gs a g t x) ⟨42, placeM g t x⟩ = N1 at hR a1
    refine Mid.callRG [0, 1] rfl rfl (fun hg => ⟨_, leant_ok H gs hl gk (out ++ N1) t.name x.name, rfl, rfl⟩) rfl (by simp [stoBd]; simp [AObj.bd, V.bds, V.bd]) (by repeat' (first | exact trivial | exact rfl | refine And.intro ?_ ?_ | exact (congrArg some (AObj.ren_mE _ _ _ _ _ _)).symm | exact (congrArg some (AObj.ren_cE _ _ _)).symm)) rfl ?_
    refine fM rfl ?_
    refine caG rfl rfl (fun hg => ⟨_, rfl, keysOf_ok H t ht.d, rfl⟩) rfl rfl ?_
    refine lMG rfl rfl rfl rfl ?_
    refine fM rfl ?_
    refine caG rfl rfl (fun hg => ⟨_, rfl, set_ok H x.dirs hx.d ([114, 101, 113, 117, 105, 114, 101, 115] : Str), rfl⟩) rfl rfl ?_
    skip
    refine caG rfl rfl (fun hg => ⟨_, rfl, outside_ok H g hgg t ht (setM x.dirs ([114, 101, 113, 117, 105, 114, 101, 115] : Str)) (by omega), rfl⟩) rfl rfl ?_
    refine fM rfl ?_
    refine Mid.callR [0, 1] (add25_ok H gs (out ++ N1) (c2M gs g t x) 43 g (t.name ++ [46] ++ x.name) hgn hpl (by simp; omega)) rfl rfl rfl rfl (by simp [stoBd]; simp [AObj.bd, V.bds, V.bd]) (by repeat' (first | exact trivial | exact rfl | refine And.intro ?_ ?_ | exact (congrArg some (AObj.ren_mE _ _ _ _ _ _)).symm | exact (congrArg some (AObj.ren_cE _ _ _)).symm)) rfl rfl (ob' := [(0, .cells [.t (.lst (gs.map Graph.enc)), .own 1 2 (List.map Fault.enc (out ++ N1 ++ ifM (c2M gs g t x) ⟨43, placeM g t x⟩))]), (1, .arr (out ++ N1 ++ ifM (c2M gs g t x) ⟨43, placeM g t x⟩).length)]) (rfl) rfl rfl ?_
    refine fM rfl ?_
    generalize ifM (c2M gs g t x) ⟨43, placeM g t x⟩ = N2 at hR a2
    refine Mid.call (hasD_ok H.toPr23 25 x.dirs hx.d.len ([112, 114, 111, 118, 105, 100, 101, 115] : Str) (.inl rfl)) rfl rfl rfl rfl ?_
    refine fM rfl ?_
    refine Run.cond rfl rfl (fun hp => ?_) (fun hp => ?_)
    · rw [if_pos hp] at hR
      refine fR rfl ?_
      refine Mid.call (find_ok H.toPr g.doc hgg.len x.ty.name) rfl rfl rfl rfl ?_
      refine fM rfl ?_
      refine caG rfl rfl (fun hg => ⟨_, rfl, set_ok H x.dirs hx.d ([112, 114, 111, 118, 105, 100, 101, 115] : Str), rfl⟩) rfl rfl ?_
      skip
      refine caG rfl rfl (fun hg => ⟨_, rfl, outside_ok H g hgg ((findDef x.ty.name g.doc).getD Def.zero) hT (setM x.dirs ([112, 114, 111, 118, 105, 100, 101, 115] : Str)) (by omega), rfl⟩) rfl rfl ?_
      refine fM rfl ?_
      refine Mid.callR [0, 1] (add25_ok H gs (out ++ N1 ++ N2) (c3M g x) 44 g (t.name ++ [46] ++ x.name) hgn hpl (by simp; omega)) rfl rfl rfl rfl (by simp [stoBd]; simp [AObj.bd, V.bds, V.bd]) (by repeat' (first | exact trivial | exact rfl | refine And.intro ?_ ?_ | exact (congrArg some (AObj.ren_mE _ _ _ _ _ _)).symm | exact (congrArg some (AObj.ren_cE _ _ _)).symm)) rfl rfl (ob' := [(0, .cells [.t (.lst (gs.map Graph.enc)), .own 1 2 (List.map Fault.enc (out ++ N1 ++ N2 ++ ifM (c3M g x) ⟨44, placeM g t x⟩))]), (1, .arr (out ++ N1 ++ N2 ++ ifM (c3M g x) ⟨44, placeM g t x⟩).length)]) (rfl) rfl rfl ?_
      refine fM rfl ?_
      generalize ifM (c3M g x) ⟨44, placeM g t x⟩ = N3 at hR a3
      refine Mid.call (hasD_ok H.toPr23 25 x.dirs hx.d.len ([115, 104, 97, 114, 101, 97, 98, 108, 101] : Str) (.inl rfl)) rfl rfl rfl rfl ?_
      refine fM rfl ?_
      refine caG rfl rfl (fun hg => ⟨_, rfl, isKey_ok H t ht.d x.name, rfl⟩) rfl rfl ?_
      refine fM rfl ?_
      refine Mid.callRG [0, 1] rfl rfl (fun hg => ⟨_, others_ok H gs hl gk (out ++ N1 ++ N2 ++ N3) a t.name x.name, rfl, rfl⟩) rfl (by simp [stoBd]; simp [AObj.bd, V.bds, V.bd]) (by repeat' (first | exact trivial | exact rfl | refine And.intro ?_ ?_ | exact (congrArg some (AObj.ren_mE _ _ _ _ _ _)).symm | exact (congrArg some (AObj.ren_cE _ _ _)).symm)) rfl ?_
      refine fM rfl ?_
      refine Mid.callR [0, 1] (add25_ok H gs (out ++ N1 ++ N2 ++ N3) (c4M gs a t x) 40 g (t.name ++ [46] ++ x.name) hgn hpl (by simp; omega)) rfl rfl rfl rfl (by simp [stoBd]; simp [AObj.bd, V.bds, V.bd]) (by repeat' (first | exact trivial | exact rfl | refine And.intro ?_ ?_ | exact (congrArg some (AObj.ren_mE _ _ _ _ _ _)).symm | exact (congrArg some (AObj.ren_cE _ _ _)).symm)) rfl rfl (ob' := [(0, .cells [.t (.lst (gs.map Graph.enc)), .own 1 2 (List.map Fault.enc (out ++ N1 ++ N2 ++ N3 ++ ifM (c4M gs a t x) ⟨40, placeM g t x⟩))]), (1, .arr (out ++ N1 ++ N2 ++ N3 ++ ifM (c4M gs a t x) ⟨40, placeM g t x⟩).length)]) (rfl) rfl rfl ?_
      refine fM rfl ?_
      have hR' : out ++ N1 ++ N2 ++ N3 ++ ifM (c4M gs a t x) ⟨40, placeM g t x⟩ = R := by rw [← hR]; simp
      refine Run.fin rfl (EndOk.chg rfl rfl ?_ ?_)
      · exact .le (.same rfl)
      · rw [hR']
        exact (by repeat' (first | exact trivial | exact LeX.t | exact LeX.top | exact LeX.nilOwn (Nat.le_of_ble_eq_true rfl) (Nat.le_of_ble_eq_true rfl) | exact LeX.ownT | exact LeX.nilT | exact LeX.same rfl | exact LeX.tEq (by simp) | exact LeX.ownEq (by simp) (Nat.le_of_ble_eq_true rfl) | exact LeX.tEq (by congr 1 <;> omega) | exact Or.inr ⟨Nat.le_of_ble_eq_true rfl, Nat.le_of_ble_eq_true rfl, rfl⟩ | refine Or.inl ⟨Nat.le_of_ble_eq_true rfl, _, rfl, ?_⟩ | refine LeO.cells ?_ | exact LeO.arr rfl | exact LeO.arr (by simp) | exact LeO.mE (by first | rfl | simp) (by first | exact Or.inl rfl | exact Or.inr rfl) | exact LeO.cE (by first | rfl | simp) | exact LeXs.cE (by first | rfl | simp) | refine LeO.map (by first | rfl | simp) ?_ (by first | exact Or.inl rfl | exact Or.inr rfl) | exact LeO.iter (by first | rfl | simp) (Nat.le_of_ble_eq_true rfl) | refine LeXs.cons ?_ ?_ | exact LeXs.nil | refine And.intro ?_ ?_))
    · rw [if_neg (by rw [hp]; simp), List.nil_append] at hR
      refine fR rfl ?_
      refine Mid.call (hasD_ok H.toPr23 25 x.dirs hx.d.len ([115, 104, 97, 114, 101, 97, 98, 108, 101] : Str) (.inl rfl)) rfl rfl rfl rfl ?_
      refine fM rfl ?_
      refine caG rfl rfl (fun hg => ⟨_, rfl, isKey_ok H t ht.d x.name, rfl⟩) rfl rfl ?_
      refine fM rfl ?_
      refine Mid.callRG [0, 1] rfl rfl (fun hg => ⟨_, others_ok H gs hl gk (out ++ N1 ++ N2) a t.name x.name, rfl, rfl⟩) rfl (by simp [stoBd]; simp [AObj.bd, V.bds, V.bd]) (by repeat' (first | exact trivial | exact rfl | refine And.intro ?_ ?_ | exact (congrArg some (AObj.ren_mE _ _ _ _ _ _)).symm | exact (congrArg some (AObj.ren_cE _ _ _)).symm)) rfl ?_
      refine fM rfl ?_
      refine Mid.callR [0, 1] (add25_ok H gs (out ++ N1 ++ N2) (c4M gs a t x) 40 g (t.name ++ [46] ++ x.name) hgn hpl (by simp; omega)) rfl rfl rfl rfl (by simp [stoBd]; simp [AObj.bd, V.bds, V.bd]) (by repeat' (first | exact trivial | exact rfl | refine And.intro ?_ ?_ | exact (congrArg some (AObj.ren_mE _ _ _ _ _ _)).symm | exact (congrArg some (AObj.ren_cE _ _ _)).symm)) rfl rfl (ob' := [(0, .cells [.t (.lst (gs.map Graph.enc)), .own 1 2 (List.map Fault.enc (out ++ N1 ++ N2 ++ ifM (c4M gs a t x) ⟨40, placeM g t x⟩))]), (1, .arr (out ++ N1 ++ N2 ++ ifM (c4M gs a t x) ⟨40, placeM g t x⟩).length)]) (rfl) rfl rfl ?_
      refine fM rfl ?_
      have hR' : out ++ N1 ++ N2 ++ ifM (c4M gs a t x) ⟨40, placeM g t x⟩ = R := by rw [← hR]; simp
      refine Run.fin rfl (EndOk.chg rfl rfl ?_ ?_)
      · exact .le (.same rfl)
      · rw [hR']
        exact (by repeat' (first | exact trivial | exact LeX.t | exact LeX.top | exact LeX.nilOwn (Nat.le_of_ble_eq_true rfl) (Nat.le_of_ble_eq_true rfl) | exact LeX.ownT | exact LeX.nilT | exact LeX.same rfl | exact LeX.tEq (by simp) | exact LeX.ownEq (by simp) (Nat.le_of_ble_eq_true rfl) | exact LeX.tEq (by congr 1 <;> omega) | exact Or.inr ⟨Nat.le_of_ble_eq_true rfl, Nat.le_of_ble_eq_true rfl, rfl⟩ | refine Or.inl ⟨Nat.le_of_ble_eq_true rfl, _, rfl, ?_⟩ | refine LeO.cells ?_ | exact LeO.arr rfl | exact LeO.arr (by simp) | exact LeO.mE (by first | rfl | simp) (by first | exact Or.inl rfl | exact Or.inr rfl) | exact LeO.cE (by first | rfl | simp) | exact LeXs.cE (by first | rfl | simp) | refine LeO.map (by first | rfl | simp) ?_ (by first | exact Or.inl rfl | exact Or.inr rfl) | exact LeO.iter (by first | rfl | simp) (Nat.le_of_ble_eq_true rfl) | refine LeXs.cons ?_ ?_ | exact LeXs.nil | refine And.intro ?_ ?_))
  exact hR _ rfl
end Go.GB.C23


/-
  F25F: moves: keys and joins of graphs.
-/
namespace Go.GB.C23
open Go.GB Go.GB.C11
set_option linter.unusedSimpArgs false
set_option linter.unusedVariables false
set_option maxRecDepth 100000
set_option maxHeartbeats 4000000
variable {P : Program}

structure KeyO where
  ty : Str
  graph : Int
  fields : List Str
def KeyO.enc (k : KeyO) : List T := [.str k.ty, .int .i64 k.graph, .lst (k.fields.map sE)]
structure Jn where
  ty : Str
  field : Str
  graph : Int
  ext : Bool
  req : List Str
  prov : List Str
def Jn.enc (j : Jn) : List T := [.str j.ty, .str j.field, .int .i64 j.graph, .bool j.ext, .lst (j.req.map sE), .lst (j.prov.map sE)]
structure Acc where
  k : List KeyO
  j : List Jn
  b : List Fault

def keyOf (i : Nat) (t : Def) (k : List Str) : KeyO := ⟨t.name, i, k⟩
def jnOf (i : Nat) (t : Def) (x : Field) : Jn := ⟨t.name, x.name, i, hasD ([101, 120, 116, 101, 114, 110, 97, 108] : Str) x.dirs, setM x.dirs ([114, 101, 113, 117, 105, 114, 101, 115] : Str), setM x.dirs ([112, 114, 111, 118, 105, 100, 101, 115] : Str)⟩
def kDef (i : Nat) (t : Def) : List KeyO := if t.kind = 1 then (keysD t.dirs).map (keyOf i t) else []
def jDef (i : Nat) (t : Def) : List Jn := if t.kind = 1 then t.fields.map (jnOf i t) else []
def fL (gs : List Graph) (i : Nat) (g : Graph) (t : Def) : List Field → List Fault
  | [] => []
  | x :: r => fieldF gs i g t x ++ fL gs i g t r
def bDef (gs : List Graph) (i : Nat) (g : Graph) (t : Def) : List Fault := if t.kind = 1 then keyL g t 0 (keysD t.dirs) ++ fL gs i g t t.fields else []
def kDefs (i : Nat) : List Def → List KeyO
  | [] => []
  | t :: r => kDef i t ++ kDefs i r
def jDefs (i : Nat) : List Def → List Jn
  | [] => []
  | t :: r => jDef i t ++ jDefs i r
def bDefs (gs : List Graph) (i : Nat) (g : Graph) : List Def → List Fault
  | [] => []
  | t :: r => bDef gs i g t ++ bDefs gs i g r
def kAll : Nat → List Graph → List KeyO
  | _, [] => []
  | i, g :: r => kDefs i g.doc ++ kAll (i + 1) r
def jAll : Nat → List Graph → List Jn
  | _, [] => []
  | i, g :: r => jDefs i g.doc ++ jAll (i + 1) r
def bAll (gs : List Graph) : Nat → List Graph → List Fault
  | _, [] => []
  | i, g :: r => bDefs gs i g g.doc ++ bAll gs (i + 1) r
structure JoinsB (gs : List Graph) : Prop where
  l : gs.length ≤ 140737488355328
  g : ∀ g, g ∈ gs → GK g.doc
  n : ∀ g, g ∈ gs → g.name.length ≤ 140737488355328
  k : (kAll 0 gs).length ≤ 549755813888
  j : (jAll 0 gs).length ≤ 549755813888
  b : (bAll gs 0 gs).length ≤ 549755813888

theorem joins_ok (H : Pr25 P) (gs : List Graph) (hB : JoinsB gs) : FnOk P 33 [.t (.lst (gs.map Graph.enc))] ⟨[], 0⟩
    { v := .tup [.t (.lst ((if bAll gs 0 gs = [] then kAll 0 gs else []).map KeyO.enc)), .t (.lst ((if bAll gs 0 gs = [] then jAll 0 gs else []).map Jn.enc)), .t (.lst ((bAll gs 0 gs).map Fault.enc))] } := by
  have hl := hB.l
  have hk := hB.k
  have hj := hB.j
  have hb := hB.b
  generalize hK : kAll 0 gs = K at hk ⊢
  generalize hJ : jAll 0 gs = J at hj ⊢
  generalize hF : bAll gs 0 gs = F at hb ⊢
  refine FnOk.run H.i33 H.mixed rfl rfl ?_
  refine fR rfl ?_
  refine lM rfl rfl rfl ?_
  refine fM rfl ?_
  refine rList gs (fun i (A : Acc) => { env := [(5, .own 1 3 (A.k.map KeyO.enc)), (6, .own 2 6 (A.j.map Jn.enc)), (7, .ptr 0 0), (19, .t (.lst (gs.map Graph.enc))), (20, .t (.int .i64 gs.length)), (21, .t (.int .i64 i))], s := ⟨[(0, .cells [.t (.lst (gs.map Graph.enc)), .own 3 2 (List.map Fault.enc (A.b))]), (1, .arr A.k.length), (2, .arr A.j.length), (3, .arr A.b.length)], 4⟩ }) (fun r i A => (A.k ++ kAll i r = K ∧ A.j ++ jAll i r = J) ∧ A.b ++ bAll gs i r = F) 1 ⟨[], [], []⟩ rfl ⟨⟨hK, hJ⟩, hF⟩ rfl rfl rfl ?_ ?_ (he := (by repeat' (first | exact trivial | exact LeX.t | exact LeX.top | exact LeX.nilOwn (Nat.le_of_ble_eq_true rfl) (Nat.le_of_ble_eq_true rfl) | exact LeX.ownT | exact LeX.nilT | exact LeX.same rfl | exact LeX.tEq (by simp) | exact LeX.ownEq (by simp) (Nat.le_of_ble_eq_true rfl) | exact LeX.tEq (by congr 1 <;> omega) | exact Or.inr ⟨Nat.le_of_ble_eq_true rfl, Nat.le_of_ble_eq_true rfl, rfl⟩ | refine Or.inl ⟨Nat.le_of_ble_eq_true rfl, _, rfl, ?_⟩ | refine LeO.cells ?_ | exact LeO.arr rfl | exact LeO.arr (by simp) | exact LeO.mE (by first | rfl | simp) (by first | exact Or.inl rfl | exact Or.inr rfl) | exact LeO.cE (by first | rfl | simp) | exact LeXs.cE (by first | rfl | simp) | refine LeO.map (by first | rfl | simp) ?_ (by first | exact Or.inl rfl | exact Or.inr rfl) | exact LeO.iter (by first | rfl | simp) (Nat.le_of_ble_eq_true rfl) | refine LeXs.cons ?_ ?_ | exact LeXs.nil | refine And.intro ?_ ?_))) (hs := (by repeat' (first | exact trivial | exact LeX.t | exact LeX.top | exact LeX.nilOwn (Nat.le_of_ble_eq_true rfl) (Nat.le_of_ble_eq_true rfl) | exact LeX.ownT | exact LeX.nilT | exact LeX.same rfl | exact LeX.tEq (by simp) | exact LeX.ownEq (by simp) (Nat.le_of_ble_eq_true rfl) | exact LeX.tEq (by congr 1 <;> omega) | exact Or.inr ⟨Nat.le_of_ble_eq_true rfl, Nat.le_of_ble_eq_true rfl, rfl⟩ | refine Or.inl ⟨Nat.le_of_ble_eq_true rfl, _, rfl, ?_⟩ | refine LeO.cells ?_ | exact LeO.arr rfl | exact LeO.arr (by simp) | exact LeO.mE (by first | rfl | simp) (by first | exact Or.inl rfl | exact Or.inr rfl) | exact LeO.cE (by first | rfl | simp) | exact LeXs.cE (by first | rfl | simp) | refine LeO.map (by first | rfl | simp) ?_ (by first | exact Or.inl rfl | exact Or.inr rfl) | exact LeO.iter (by first | rfl | simp) (Nat.le_of_ble_eq_true rfl) | refine LeXs.cons ?_ ?_ | exact LeXs.nil | refine And.intro ?_ ?_)))
  · rintro ⟨k, j, b⟩ ⟨⟨h1, h2⟩, h3⟩
    obtain rfl : k = K := by rw [← h1]; simp [kAll]
    obtain rfl : j = J := by rw [← h2]; simp [jAll]
    obtain rfl : b = F := by rw [← h3]; simp [bAll]
    dsimp only
    refine fR rfl ?_
    refine Run.condF rfl rfl (by simp) ?_
    refine fR rfl ?_
    refine lM rfl rfl rfl ?_
    refine fM rfl ?_
    refine Run.cond rfl rfl (fun hc => ?_) (fun hc => ?_)
    · have hc' : ¬ b = [] := by intro e; rw [e] at hc; simp at hc
      rw [if_neg hc', if_neg hc']
      refine fR rfl ?_
      refine Run.fin rfl (EndOk.go ?_); exact .tup3 (.nil rfl) (.nil rfl) (.own rfl)
    · have hc' : b = [] := by
        have : b.length = 0 := by simp at hc; simp [hc]
        exact List.length_eq_zero_iff.1 this
      subst hc'
      rw [if_pos rfl, if_pos rfl]
      refine fR rfl ?_
      refine Run.fin rfl (EndOk.go ?_); exact .tup3 (.own rfl) (.own rfl) (.nil rfl)
  · rintro i g r A h1 hi hd ⟨⟨e1, e2⟩, e3⟩ ih
    have hg := hB.g g (List.mem_of_getElem? h1)
    have hgl := hg.l
    have hlk := congrArg List.length e1
    have hlj := congrArg List.length e2
    have hlb := congrArg List.length e3
    simp only [List.length_append] at hlk hlj hlb
    refine fR rfl ?_
    refine Run.condT rfl rfl (by simp; omega) ?_
    refine fR rfl ?_
    refine Mid.elemMap rfl rfl rfl h1 rfl rfl ?_
    refine fM rfl ?_
    refine lM rfl rfl rfl ?_
    refine fM rfl ?_
    refine rList g.doc (fun m (A : Acc) => { env := [(5, .own 1 3 (A.k.map KeyO.enc)), (6, .own 2 6 (A.j.map Jn.enc)), (7, .ptr 0 0), (8, .t (.int .i64 i)), (9, .ptr 4 0), (19, .t (.lst (gs.map Graph.enc))), (20, .t (.int .i64 gs.length)), (21, .t (.int .i64 i)), (28, .t (.lst (g.doc.map Def.enc))), (29, .t (.int .i64 g.doc.length)), (30, .t (.int .i64 m))], s := ⟨[(0, .cells [.t (.lst (gs.map Graph.enc)), .own 3 2 (List.map Fault.enc (A.b))]), (1, .arr A.k.length), (2, .arr A.j.length), (3, .arr A.b.length), (4, (.cells [.t (.str g.name), .t (.lst (g.doc.map Def.enc))]))], 5⟩ }) (fun r1 m A => (A.k ++ (kDefs i r1 ++ kAll (i + 1) r) = K ∧ A.j ++ (jDefs i r1 ++ jAll (i + 1) r) = J) ∧ A.b ++ (bDefs gs i g r1 ++ bAll gs (i + 1) r) = F) 5 A rfl ⟨⟨e1, e2⟩, e3⟩ rfl rfl rfl ?_ ?_
    · rintro A ⟨⟨e1, e2⟩, e3⟩
      refine fR rfl ?_
      refine Run.condF rfl rfl (by simp) ?_
      refine fR rfl ?_
      refine aL rfl rfl rfl rfl rfl ?_
      refine fM rfl ?_
      exact rWeak 4 rfl (ih A ⟨⟨by rw [← e1]; simp [kDefs], by rw [← e2]; simp [jDefs]⟩, by rw [← e3]; simp [bDefs]⟩) rfl rfl rfl
    · rintro m t r1 A h2 hm hmd ⟨⟨e1, e2⟩, e3⟩ ih1
      have ht := hg.t t (List.mem_of_getElem? h2)
      have htl := ht.fl
      have hdl := ht.d.l
      have hkl := keysD_len t.dirs
      have hlk := congrArg List.length e1
      have hlj := congrArg List.length e2
      have hlb := congrArg List.length e3
      simp only [kDefs, jDefs, bDefs] at e1 e2 e3 hlk hlj hlb
      simp only [List.length_append] at hlk hlj hlb
      refine fR rfl ?_
      refine Run.condT rfl rfl (by simp; omega) ?_
      refine fR rfl ?_
      refine Mid.elemMap rfl rfl rfl h2 rfl rfl ?_
      refine fM rfl ?_
      by_cases hk1 : t.kind = 1
      · rw [kDef, if_pos hk1] at e1 hlk
        rw [jDef, if_pos hk1] at e2 hlj
        rw [bDef, if_pos hk1] at e3 hlb
        simp only [List.length_append] at hlb
        refine Run.condF rfl rfl (by simp [hk1]) ?_
        refine fR rfl ?_
        refine Mid.callR [0, 3] (keys_ok H gs g hg (hB.n g (List.mem_of_getElem? h1)) t ht A.b (by omega)) rfl rfl rfl rfl (by simp [stoBd]; simp [AObj.bd, V.bds, V.bd]) (by repeat' (first | exact trivial | exact rfl | refine And.intro ?_ ?_ | exact (congrArg some (AObj.ren_mE _ _ _ _ _ _)).symm | exact (congrArg some (AObj.ren_cE _ _ _)).symm)) rfl rfl (ob' := [(0, .cells [.t (.lst (gs.map Graph.enc)), .own 3 2 (List.map Fault.enc (A.b ++ keyL g t 0 (keysD t.dirs)))]), (3, .arr (A.b ++ keyL g t 0 (keysD t.dirs)).length)]) (rfl) rfl rfl ?_
        refine fM rfl ?_
        generalize keyL g t 0 (keysD t.dirs) = N1 at e3 hlb
        refine Mid.call (keysOf_ok H t ht.d) rfl rfl rfl rfl ?_
        refine lM rfl rfl rfl ?_
        refine fM rfl ?_
        generalize keysD t.dirs = KS at hkl e1 hlk
        refine rList KS (fun q (C : List KeyO) => { env := [(5, .own 1 3 (C.map KeyO.enc)), (6, .own 2 6 (A.j.map Jn.enc)), (7, .ptr 0 0), (8, .t (.int .i64 i)), (9, .ptr 4 0), (11, .ptr 5 0), (19, .t (.lst (gs.map Graph.enc))), (20, .t (.int .i64 gs.length)), (21, .t (.int .i64 i)), (28, .t (.lst (g.doc.map Def.enc))), (29, .t (.int .i64 g.doc.length)), (30, .t (.int .i64 m)), (42, .t (.lst (KS.map lE))), (43, .t (.int .i64 KS.length)), (44, .t (.int .i64 q))], s := ⟨[(0, .cells [.t (.lst (gs.map Graph.enc)), .own 3 2 (List.map Fault.enc (A.b ++ N1))]), (1, .arr C.length), (2, .arr A.j.length), (3, .arr (A.b ++ N1).length), (4, (.cells [.t (.str g.name), .t (.lst (g.doc.map Def.enc))])), (5, (.cells [.t (.int .i64 t.kind), .t (.str t.name), .t (.lst (t.implements.map sE)), .t (.lst (t.dirs.map Dir.enc)), .t (.lst (t.fields.map Field.enc)), .t (.lst (t.members.map Member.enc)), .t (.lst (t.inputs.map Input.enc))]))], 6⟩ }) (fun r2 q C => C ++ (r2.map (keyOf i t) ++ (kDefs i r1 ++ kAll (i + 1) r)) = K) 6 A.k rfl (by rw [← e1]; simp) rfl rfl rfl ?_ ?_
        · rintro C hC
          refine fR rfl ?_
          refine Run.condF rfl rfl (by simp) ?_
          refine fR rfl ?_
          refine lM rfl rfl rfl ?_
          refine fM rfl ?_
          refine rList t.fields (fun q (B : List Jn × List Fault) => { env := [(5, .own 1 3 (C.map KeyO.enc)), (6, .own 2 6 (B.1.map Jn.enc)), (7, .ptr 0 0), (8, .t (.int .i64 i)), (9, .ptr 4 0), (11, .ptr 5 0), (19, .t (.lst (gs.map Graph.enc))), (20, .t (.int .i64 gs.length)), (21, .t (.int .i64 i)), (28, .t (.lst (g.doc.map Def.enc))), (29, .t (.int .i64 g.doc.length)), (30, .t (.int .i64 m)), (58, .t (.lst (t.fields.map Field.enc))), (59, .t (.int .i64 t.fields.length)), (60, .t (.int .i64 q))], s := ⟨[(0, .cells [.t (.lst (gs.map Graph.enc)), .own 3 2 (List.map Fault.enc (B.2))]), (1, .arr C.length), (2, .arr B.1.length), (3, .arr B.2.length), (4, (.cells [.t (.str g.name), .t (.lst (g.doc.map Def.enc))])), (5, (.cells [.t (.int .i64 t.kind), .t (.str t.name), .t (.lst (t.implements.map sE)), .t (.lst (t.dirs.map Dir.enc)), .t (.lst (t.fields.map Field.enc)), .t (.lst (t.members.map Member.enc)), .t (.lst (t.inputs.map Input.enc))]))], 6⟩ }) (fun r2 q B => B.1 ++ (r2.map (jnOf i t) ++ (jDefs i r1 ++ jAll (i + 1) r)) = J ∧ B.2 ++ (fL gs i g t r2 ++ (bDefs gs i g r1 ++ bAll gs (i + 1) r)) = F) 6 (A.j, A.b ++ N1) rfl ⟨by rw [← e2]; simp, by rw [← e3]; simp⟩ rfl rfl rfl ?_ ?_
          · rintro ⟨B1, B2⟩ ⟨g1, g2⟩
            dsimp only at g1 g2 ⊢
            refine fR rfl ?_
            refine Run.condF rfl rfl (by simp) ?_
            refine fR rfl ?_
            refine aL rfl rfl rfl rfl rfl ?_
            refine fM rfl ?_
            exact rWeak 5 rfl (ih1 ⟨C, B1, B2⟩ ⟨⟨by rw [← hC]; simp, by rw [← g1]; simp⟩, by rw [← g2]; simp [fL]⟩) rfl rfl rfl
          · rintro q x r2 ⟨B1, B2⟩ h3 hq hqd ⟨g1, g2⟩ ih2
            dsimp only at g1 g2 ih2 ⊢
            have hx := ht.f x (List.mem_of_getElem? h3)
            have hl1 := congrArg List.length g1
            have hl2 := congrArg List.length g2
            simp only [fL, List.length_append, List.length_map, List.length_cons] at hl1 hl2
            refine fR rfl ?_
            refine Run.condT rfl rfl (by simp; omega) ?_
            refine fR rfl ?_
            refine Mid.elemMap rfl rfl rfl h3 rfl rfl ?_
            refine fM rfl ?_
            refine Mid.callR [0, 3] (field_ok H gs hl hB.g hB.n i g h1 t ht x hx B2 (by omega)) rfl rfl rfl rfl (by simp [stoBd]; simp [AObj.bd, V.bds, V.bd]) (by repeat' (first | exact trivial | exact rfl | refine And.intro ?_ ?_ | exact (congrArg some (AObj.ren_mE _ _ _ _ _ _)).symm | exact (congrArg some (AObj.ren_cE _ _ _)).symm)) rfl rfl (ob' := [(0, .cells [.t (.lst (gs.map Graph.enc)), .own 3 2 (List.map Fault.enc (B2 ++ fieldF gs i g t x))]), (3, .arr (B2 ++ fieldF gs i g t x).length)]) (rfl) rfl rfl ?_
            refine fM rfl ?_
            refine Mid.call (hasD_ok H.toPr23 25 x.dirs hx.d.len ([101, 120, 116, 101, 114, 110, 97, 108] : Str) (.inl rfl)) rfl rfl rfl rfl ?_
            refine fM rfl ?_
            refine Mid.call (set_ok H x.dirs hx.d ([114, 101, 113, 117, 105, 114, 101, 115] : Str)) rfl rfl rfl rfl ?_
            refine fM rfl ?_
            refine Mid.call (set_ok H x.dirs hx.d ([112, 114, 111, 118, 105, 100, 101, 115] : Str)) rfl rfl rfl rfl ?_
            refine fM rfl ?_
            refine apM Jn.enc B1 [jnOf i t x] rfl rfl rfl rfl rfl ?_ (h1 := by first | omega | (simp; omega) | (simp; done)) (h2 := by first | omega | (simp; omega) | (simp; done))
            refine fM rfl ?_
            refine aL rfl rfl rfl rfl rfl ?_
            refine fM rfl ?_
            exact rWeak 6 rfl (ih2 (B1 ++ [jnOf i t x], B2 ++ fieldF gs i g t x) ⟨by rw [← g1]; simp, by rw [← g2]; simp [fL]⟩) rfl rfl rfl
        · rintro q ks r2 C h3 hq hqd hC ih2
          have hlC := congrArg List.length hC
          simp only [List.length_append, List.length_map, List.length_cons] at hlC
          refine fR rfl ?_
          refine Run.condT rfl rfl (by simp; omega) ?_
          refine fR rfl ?_
          refine Mid.elemMap rfl rfl rfl h3 rfl rfl ?_
          refine fM rfl ?_
          refine apM KeyO.enc C [keyOf i t ks] rfl rfl rfl rfl rfl ?_ (h1 := by first | omega | (simp; omega) | (simp; done)) (h2 := by first | omega | (simp; omega) | (simp; done))
          refine fM rfl ?_
          refine aL rfl rfl rfl rfl rfl ?_
          refine fM rfl ?_
          exact rWeak 6 rfl (ih2 (C ++ [keyOf i t ks]) (by rw [← hC]; simp)) rfl rfl rfl
      · rw [kDef, if_neg hk1, List.nil_append] at e1
        rw [jDef, if_neg hk1, List.nil_append] at e2
        rw [bDef, if_neg hk1, List.nil_append] at e3
        refine Run.condT rfl rfl (by simp [hk1]) ?_
        refine fR rfl ?_
        refine aL rfl rfl rfl rfl rfl ?_
        refine fM rfl ?_
        exact rWeak 5 rfl (ih1 A ⟨⟨e1, e2⟩, e3⟩) rfl rfl rfl
end Go.GB.C23


/-
  F25G: moves: joins, keys and requirements of supergraphs.
-/
namespace Go.GB.C23
open Go.GB Go.GB.C11
set_option linter.unusedSimpArgs false
set_option linter.unusedVariables false
set_option maxRecDepth 100000
set_option maxHeartbeats 4000000
variable {P : Program}

theorem clone25_ok (H : Pr25 P) (l : List Str) (hl : l.length * 16 ≤ 140737488355328) : FnOk P 68 [.t (.lst (l.map sE))] ⟨[], 0⟩ { v := .t (.lst (l.map sE)) } := by
  refine FnOk.run H.i68 H.mixed rfl rfl ?_
  refine fR rfl ?_
  refine p0 rfl ?_
  refine fM rfl ?_
  refine Run.condU rfl rfl (fun h => ?_) (fun _ => ?_)
  · have hn : l = [] := by
      cases l with
      | nil => rfl
      | cons x r =>
        have := h (sE x) (by simp)
        simp [sE] at this
    subst hn
    refine fR rfl ?_
    refine Run.fin rfl (EndOk.go ?_); exact .nil rfl
  · refine fR rfl ?_
    refine apN sE l rfl rfl rfl ?_ (h1 := hl) (h2 := by omega)
    refine fM rfl ?_
    refine Run.fin rfl (EndOk.go ?_); exact .own rfl
theorem texts_ok (H : Pr25 P) (a b : List Str) (ha : a.length ≤ 140737488355328) (hb : b.length ≤ 140737488355328) : FnOk P 43 [.t (.lst (a.map sE)), .t (.lst (b.map sE))] ⟨[], 0⟩ { v := .t (.bool (decide (a = b))) } := by
  refine FnOk.run H.i43 H.mixed rfl rfl ?_
  refine fR rfl ?_
  refine lM rfl rfl rfl ?_
  refine fM rfl ?_
  refine lM rfl rfl rfl ?_
  refine fM rfl ?_
  refine Run.cond rfl rfl (fun h => ?_) (fun h => ?_)
  · have h' : ¬ a.length = b.length := by simp at h; omega
    refine fR rfl ?_
    refine Run.fin rfl (EndOk.go ?_); exact .t (by simp; intro e; exact h' (by rw [e]))
  · have h' : a.length = b.length := by simp at h; omega
    refine fR rfl ?_
    refine rList a (fun i (_ : Unit) => { env := [(0, .t (.lst (a.map sE))), (1, .t (.lst (b.map sE))), (5, .t (.int .i64 i))], s := ⟨[], 0⟩ }) (fun r i _ => decide (a = b) = decide (r = b.drop i)) 0 () rfl (by simp) rfl rfl rfl ?_ ?_
    · intro _ hinv
      refine fR rfl ?_
      refine lM rfl rfl rfl ?_
      refine fM rfl ?_
      refine Run.condF rfl rfl (by simp) ?_
      refine fR rfl ?_
      refine Run.fin rfl (EndOk.go ?_); exact .t (by rw [hinv, h']; simp)
    · intro i x r _ h1 hi hd hinv ih
      obtain ⟨y, hy⟩ := at_of_len h' hi
      have hinv' : decide (a = b) = decide (x :: r = b.drop i) := hinv
      rw [Go.GB.C11.drop_at hy] at hinv'
      refine fR rfl ?_
      refine lM rfl rfl rfl ?_
      refine fM rfl ?_
      refine Run.condT rfl rfl (by simp; omega) ?_
      refine fR rfl ?_
      refine Mid.elemMap rfl rfl rfl h1 rfl rfl ?_
      refine fM rfl ?_
      refine Mid.elemMap rfl rfl rfl hy rfl rfl ?_
      refine fM rfl ?_
      refine Run.cond rfl rfl (fun hc => ?_) (fun hc => ?_)
      · have hc' : ¬ x = y := by simpa using hc
        refine fR rfl ?_
        refine Run.fin rfl (EndOk.go ?_); exact .t (by rw [hinv']; simp [hc'])
      · have hc' : x = y := by simpa using hc
        refine fR rfl ?_
        refine aL rfl rfl rfl rfl rfl ?_
        refine fM rfl ?_
        exact rWeak 0 rfl (ih () (by rw [hinv']; simp [hc'])) rfl rfl rfl
def Jn.v (j : Jn) : V := .agg [.t (.str j.ty), .t (.str j.field), .t (.int .i64 j.graph), .t (.bool j.ext), .t (.lst (j.req.map sE)), .t (.lst (j.prov.map sE))]
structure Jn.Ok (j : Jn) : Prop where
  r : j.req.length * 16 ≤ 140737488355328
  p : j.prov.length * 16 ≤ 140737488355328
def Jn.zero : Jn := ⟨[], [], 0, false, [], []⟩
theorem Jn.zero_ok : Jn.zero.Ok := ⟨by decide, by decide⟩
theorem sameJ_ok (H : Pr25 P) (j : Jn) (hj : j.Ok) : FnOk P 42 [j.v, j.v] ⟨[], 0⟩ { v := .t (.bool true) } := by
  have h1 := hj.r
  have h2 := hj.p
  refine FnOk.run H.i42 H.mixed rfl rfl ?_
  refine fR rfl ?_
  refine caG rfl rfl (fun hg => ⟨_, rfl, texts_ok H j.req j.req (by omega) (by omega), rfl⟩) rfl rfl ?_
  refine fM rfl ?_
  refine caG rfl rfl (fun hg => ⟨_, rfl, texts_ok H j.prov j.prov (by omega) (by omega), rfl⟩) rfl rfl ?_
  refine fM rfl ?_
  refine Run.fin rfl (EndOk.go ?_); exact .t (by simp)

/-- a supergraph -/
def superV (a b : T) (ks : List KeyO) (js : List Jn) : V := .agg [.t a, .t b, .t (.lst (ks.map KeyO.enc)), .t (.lst (js.map Jn.enc))]
def isJ (n f : Str) (g : Int) (j : Jn) : Bool := (j.ty == n && j.field == f) && j.graph == g
def findJ (n f : Str) (g : Int) : List Jn → Option Jn
  | [] => none
  | j :: r => if isJ n f g j = true then some j else findJ n f g r
theorem findJ_mem {n f : Str} {g : Int} : ∀ {l : List Jn} {j : Jn}, findJ n f g l = some j → j ∈ l
  | [], j, h => by cases h
  | x :: r, j, h => by
    rw [findJ] at h
    split at h
    · cases h; exact List.mem_cons_self ..
    · exact List.mem_cons_of_mem _ (findJ_mem h)
theorem findJ_ok (H : Pr25 P) (a b : T) (ks : List KeyO) (js : List Jn) (hl : js.length ≤ 140737488355328) (hj : ∀ j, j ∈ js → j.Ok) (n f : Str) (g : Int) : FnOk P 38 [superV a b ks js, .t (.str n), .t (.str f), .t (.int .i64 g)] ⟨[], 0⟩ { v := .tup [((findJ n f g js).getD Jn.zero).v, .t (.bool (findJ n f g js).isSome)] } := by
  refine FnOk.run H.i38 H.mixed rfl rfl ?_
  refine fR rfl ?_
  refine lM rfl rfl rfl ?_
  refine fM rfl ?_
  refine rList js (fun i (_ : Unit) => { env := [(1, .t (.str n)), (2, .t (.str f)), (3, .t (.int .i64 g)), (8, .ptr 1 0), (13, .t (.lst (js.map Jn.enc))), (14, .t (.int .i64 js.length)), (15, .t (.int .i64 i))], s := ⟨[(1, (.cells [.t (.str []), .t (.str []), .t (.int .i64 0), .t (.bool false), .nils, .nils]))], 2⟩ }) (fun r i _ => findJ n f g js = findJ n f g r) 2 () rfl rfl rfl rfl rfl ?_ ?_
  · intro _ hinv
    refine fR rfl ?_
    refine Run.condF rfl rfl (by simp) ?_
    refine fR rfl ?_
    have e : findJ n f g js = none := by rw [hinv]; rfl
    rw [e]
    refine Run.fin rfl (EndOk.go ?_); exact .tup2 (.agg (.cons (.t rfl) (.cons (.t rfl) (.cons (.t rfl) (.cons (.t rfl) (.cons (.nil rfl) (.cons (.nil rfl) .nil))))))) (.t rfl)
  · intro i x r _ h1 hi hd hinv ih
    have hx := hj x (List.mem_of_getElem? h1)
    refine fR rfl ?_
    refine Run.condT rfl rfl (by simp; omega) ?_
    refine fR rfl ?_
    refine Mid.elemMap rfl rfl rfl h1 rfl rfl ?_
    refine fM rfl ?_
    refine Run.cond rfl rfl (fun h => ?_) (fun h => ?_)
    · have h' : isJ n f g x = true := h
      have e : findJ n f g js = some x := by rw [hinv, findJ, if_pos h']
      rw [e]
      refine fR rfl ?_
      refine Mid.call (clone25_ok H x.req hx.r) rfl rfl rfl rfl ?_
      refine fM rfl ?_
      refine Mid.call (clone25_ok H x.prov hx.p) rfl rfl rfl rfl ?_
      refine fM rfl ?_
      refine Run.fin rfl (EndOk.go ?_); exact .tup2 (.le (.same rfl)) (.t rfl)
    · have h' : ¬ isJ n f g x = true := by unfold isJ; rw [h]; simp
      refine fR rfl ?_
      refine aL rfl rfl rfl rfl rfl ?_
      refine fM rfl ?_
      exact rWeak 2 rfl (ih () (by rw [hinv, findJ, if_neg h'])) rfl rfl rfl
theorem rFindJ_ok (H : Pr25 P) (a b : T) (ks : List KeyO) (js : List Jn) (hl : js.length ≤ 140737488355328) (n f : Str) (g : Int) : FnOk P 39 [superV a b ks js, .t (.str n), .t (.str f), .t (.int .i64 g)] ⟨[], 0⟩ { v := .tup [((findJ n f g js).getD Jn.zero).v, .t (.bool (findJ n f g js).isSome)] } := by
  refine FnOk.run H.i39 H.mixed rfl rfl ?_
  refine fR rfl ?_
  refine rList js (fun i (_ : Unit) => { env := [(1, .t (.str n)), (2, .t (.str f)), (3, .t (.int .i64 g)), (4, .ptr 0 0), (8, .ptr 1 0), (10, .t (.int .i64 i))], s := ⟨[(0, .cells [.t a, .t b, .t (.lst (ks.map KeyO.enc)), .t (.lst (js.map Jn.enc))]), (1, (.cells [.t (.str []), .t (.str []), .t (.int .i64 0), .t (.bool false), .nils, .nils]))], 2⟩ }) (fun r i _ => findJ n f g js = findJ n f g r) 2 () rfl rfl rfl rfl rfl ?_ ?_
  · intro _ hinv
    refine fR rfl ?_
    refine lM rfl rfl rfl ?_
    refine fM rfl ?_
    refine Run.condF rfl rfl (by simp) ?_
    refine fR rfl ?_
    have e : findJ n f g js = none := by rw [hinv]; rfl
    rw [e]
    refine Run.fin rfl (EndOk.go ?_); exact .tup2 (.agg (.cons (.t rfl) (.cons (.t rfl) (.cons (.t rfl) (.cons (.t rfl) (.cons (.nil rfl) (.cons (.nil rfl) .nil))))))) (.t rfl)
  · intro i x r _ h1 hi hd hinv ih
    refine fR rfl ?_
    refine lM rfl rfl rfl ?_
    refine fM rfl ?_
    refine Run.condT rfl rfl (by simp; omega) ?_
    refine fR rfl ?_
    refine Mid.elemMap rfl rfl rfl h1 rfl rfl ?_
    refine fM rfl ?_
    refine Run.cond rfl rfl (fun h => ?_) (fun h => ?_)
    · have h' : isJ n f g x = true := h
      have e : findJ n f g js = some x := by rw [hinv, findJ, if_pos h']
      rw [e]
      refine fR rfl ?_
      refine Run.fin rfl (EndOk.go ?_); exact .tup2 (.le (.same rfl)) (.t rfl)
    · have h' : ¬ isJ n f g x = true := by unfold isJ; rw [h]; simp
      refine fR rfl ?_
      refine aL rfl rfl rfl rfl rfl ?_
      refine fM rfl ?_
      exact rWeak 2 rfl (ih () (by rw [hinv, findJ, if_neg h'])) rfl rfl rfl

def isK (n : Str) (g : Int) (k : KeyO) : Bool := k.ty == n && k.graph == g
def keysS (n : Str) (g : Int) : List KeyO → List (List Str)
  | [] => []
  | k :: r => (if isK n g k = true then [k.fields] else []) ++ keysS n g r
theorem keysS_mem {n : Str} {g : Int} {x : List Str} : ∀ {l : List KeyO}, x ∈ keysS n g l → ∃ k, k ∈ l ∧ x = k.fields
  | [], h => by cases h
  | k :: r, h => by
    rw [keysS] at h
    rcases List.mem_append.1 h with h | h
    · split at h
      · simp at h; exact ⟨k, List.mem_cons_self .., h⟩
      · cases h
    · obtain ⟨y, h1, h2⟩ := keysS_mem h
      exact ⟨y, List.mem_cons_of_mem _ h1, h2⟩
theorem keysJ_ok (H : Pr25 P) (a b : T) (ks : List KeyO) (js : List Jn) (hl : ks.length ≤ 1000) (hk : ∀ k, k ∈ ks → k.fields.length * 16 ≤ 140737488355328) (n : Str) (g : Int) : FnOk P 40 [superV a b ks js, .t (.str n), .t (.int .i64 g)] ⟨[], 0⟩ { v := .t (.lst ((keysS n g ks).map lE)) } := by
  have hR : ∀ R, keysS n g ks = R → FnOk P 40 [superV a b ks js, .t (.str n), .t (.int .i64 g)] ⟨[], 0⟩ { v := .t (.lst (R.map lE)) } := by
    intro R hR
    refine FnOk.run H.i40 H.mixed rfl rfl ?_
    refine fR rfl ?_
    refine lM rfl rfl rfl ?_
    refine fM rfl ?_
    refine rList ks (fun i (B : List (List Str)) => { env := [(1, .t (.str n)), (2, .t (.int .i64 g)), (7, .own 1 1 (B.map lE)), (11, .t (.lst (ks.map KeyO.enc))), (12, .t (.int .i64 ks.length)), (13, .t (.int .i64 i))], s := ⟨[(1, .arr B.length)], 2⟩ }) (fun r i B => B.length ≤ i ∧ B ++ keysS n g r = R) 1 [] rfl ⟨by simp, hR⟩ rfl rfl rfl ?_ ?_
    · rintro B ⟨_, hB⟩
      obtain rfl : B = R := by rw [← hB]; simp [keysS]
      refine fR rfl ?_
      refine Run.condF rfl rfl (by simp) ?_
      refine fR rfl ?_
      refine Run.fin rfl (EndOk.go ?_); exact .own rfl
    · rintro i x r B h1 hi hd ⟨hBl, hB⟩ ih
      have hBl' : B.length ≤ i := hBl
      have hx := hk x (List.mem_of_getElem? h1)
      have hB2 : B ++ ((if isK n g x = true then [x.fields] else []) ++ keysS n g r) = R := hB
      refine fR rfl ?_
      refine Run.condT rfl rfl (by simp; omega) ?_
      refine fR rfl ?_
      refine Mid.elemMap rfl rfl rfl h1 rfl rfl ?_
      refine fM rfl ?_
      refine Run.cond rfl rfl (fun h => ?_) (fun h => ?_)
      · have h' : isK n g x = true := h
        rw [if_pos h'] at hB2
        refine fR rfl ?_
        refine Mid.call (clone25_ok H x.fields hx) rfl rfl rfl rfl ?_
        refine fM rfl ?_
        refine apM lE B [x.fields] rfl rfl rfl rfl rfl ?_ (h1 := by first | omega | (simp; omega) | (simp; done)) (h2 := by first | omega | (simp; omega) | (simp; done))
        refine fM rfl ?_
        refine aL rfl rfl rfl rfl rfl ?_
        refine fM rfl ?_
        exact rWeak 2 rfl (ih (B ++ [x.fields]) ⟨by simp; omega, by rw [← hB2]; simp⟩) rfl rfl rfl
      · have h' : ¬ isK n g x = true := by unfold isK; rw [h]; simp
        rw [if_neg h', List.nil_append] at hB2
        refine fR rfl ?_
        refine aL rfl rfl rfl rfl rfl ?_
        refine fM rfl ?_
        exact rWeak 2 rfl (ih B ⟨by omega, hB2⟩) rfl rfl rfl
  exact hR _ rfl
theorem rKeysJ_ok (H : Pr25 P) (a b : T) (ks : List KeyO) (js : List Jn) (hl : ks.length ≤ 1000) (n : Str) (g : Int) : FnOk P 41 [superV a b ks js, .t (.str n), .t (.int .i64 g)] ⟨[], 0⟩ { v := .t (.lst ((keysS n g ks).map lE)) } := by
  have hR : ∀ R, keysS n g ks = R → FnOk P 41 [superV a b ks js, .t (.str n), .t (.int .i64 g)] ⟨[], 0⟩ { v := .t (.lst (R.map lE)) } := by
    intro R hR
    refine FnOk.run H.i41 H.mixed rfl rfl ?_
    refine fR rfl ?_
    refine rList ks (fun i (B : List (List Str)) => { env := [(1, .t (.str n)), (2, .t (.int .i64 g)), (3, .ptr 0 0), (7, .own 1 1 (B.map lE)), (8, .t (.int .i64 i))], s := ⟨[(0, .cells [.t a, .t b, .t (.lst (ks.map KeyO.enc)), .t (.lst (js.map Jn.enc))]), (1, .arr B.length)], 2⟩ }) (fun r i B => B.length ≤ i ∧ B ++ keysS n g r = R) 1 [] rfl ⟨by simp, hR⟩ rfl rfl rfl ?_ ?_
    · rintro B ⟨_, hB⟩
      obtain rfl : B = R := by rw [← hB]; simp [keysS]
      refine fR rfl ?_
      refine lM rfl rfl rfl ?_
      refine fM rfl ?_
      refine Run.condF rfl rfl (by simp) ?_
      refine fR rfl ?_
      refine Run.fin rfl (EndOk.go ?_); exact .own rfl
    · rintro i x r B h1 hi hd ⟨hBl, hB⟩ ih
      have hBl' : B.length ≤ i := hBl
      have hB2 : B ++ ((if isK n g x = true then [x.fields] else []) ++ keysS n g r) = R := hB
      refine fR rfl ?_
      refine lM rfl rfl rfl ?_
      refine fM rfl ?_
      refine Run.condT rfl rfl (by simp; omega) ?_
      refine fR rfl ?_
      refine Mid.elemMap rfl rfl rfl h1 rfl rfl ?_
      refine fM rfl ?_
      refine elG rfl rfl rfl rfl h1 rfl rfl ?_
      refine fM rfl ?_
      refine Run.cond rfl rfl (fun h => ?_) (fun h => ?_)
      · have h' : isK n g x = true := h
        rw [if_pos h'] at hB2
        refine fR rfl ?_
        refine Mid.elemMap rfl rfl rfl h1 rfl rfl ?_
        refine fM rfl ?_
        refine apM lE B [x.fields] rfl rfl rfl rfl rfl ?_ (h1 := by first | omega | (simp; omega) | (simp; done)) (h2 := by first | omega | (simp; omega) | (simp; done))
        refine fM rfl ?_
        refine aL rfl rfl rfl rfl rfl ?_
        refine fM rfl ?_
        exact rWeak 2 rfl (ih (B ++ [x.fields]) ⟨by simp; omega, by rw [← hB2]; simp⟩) rfl rfl rfl
      · have h' : ¬ isK n g x = true := by unfold isK; rw [h]; simp
        rw [if_neg h', List.nil_append] at hB2
        refine fR rfl ?_
        refine aL rfl rfl rfl rfl rfl ?_
        refine fM rfl ?_
        exact rWeak 2 rfl (ih B ⟨by omega, hB2⟩) rfl rfl rfl
  exact hR _ rfl

def isN (n f : Str) (j : Jn) : Bool := (j.ty == n && j.field == f) && decide ((j.req.length : Int) > 0)
def needS (n f : Str) : List Jn → List Str
  | [] => []
  | j :: r => if isN n f j = true then j.req else needS n f r
theorem needS_len {n f : Str} : ∀ {l : List Jn}, (∀ j, j ∈ l → j.Ok) → (needS n f l).length ≤ 140737488355328
  | [], _ => by simp [needS]
  | j :: r, h => by
    rw [needS]
    split
    · have := (h j (List.mem_cons_self ..)).r; omega
    · exact needS_len fun y hy => h y (List.mem_cons_of_mem _ hy)
theorem needs_ok (H : Pr25 P) (a b : T) (ks : List KeyO) (js : List Jn) (hl : js.length ≤ 140737488355328) (hj : ∀ j, j ∈ js → j.Ok) (n f : Str) : FnOk P 44 [superV a b ks js, .t (.str n), .t (.str f)] ⟨[], 0⟩ { v := .t (.lst ((needS n f js).map sE)) } := by
  refine FnOk.run H.i44 H.mixed rfl rfl ?_
  refine fR rfl ?_
  refine lM rfl rfl rfl ?_
  refine fM rfl ?_
  refine rList js (fun i (_ : Unit) => { env := [(1, .t (.str n)), (2, .t (.str f)), (10, .t (.lst (js.map Jn.enc))), (11, .t (.int .i64 js.length)), (12, .t (.int .i64 i))], s := ⟨[], 0⟩ }) (fun r i _ => needS n f js = needS n f r) 0 () rfl rfl rfl rfl rfl ?_ ?_
  · intro _ hinv
    refine fR rfl ?_
    refine Run.condF rfl rfl (by simp) ?_
    refine fR rfl ?_
    refine Run.fin rfl (EndOk.go ?_); exact .nil (by rw [hinv]; rfl)
  · intro i x r _ h1 hi hd hinv ih
    have hx := hj x (List.mem_of_getElem? h1)
    have hxr := hx.r
    refine fR rfl ?_
    refine Run.condT rfl rfl (by simp; omega) ?_
    refine fR rfl ?_
    refine Mid.elemMap rfl rfl rfl h1 rfl rfl ?_
    refine fM rfl ?_
    refine lMG rfl rfl rfl rfl ?_
    refine fM rfl ?_
    refine Run.cond rfl rfl (fun h => ?_) (fun h => ?_)
    · have h' : isN n f x = true := h
      have e : needS n f js = x.req := by rw [hinv, needS, if_pos h']
      rw [e]
      refine fR rfl ?_
      refine Mid.call (clone25_ok H x.req hx.r) rfl rfl rfl rfl ?_
      refine fM rfl ?_
      refine Run.fin rfl (EndOk.go ?_); exact .t rfl
    · have h' : ¬ isN n f x = true := by unfold isN; rw [h]; simp
      refine fR rfl ?_
      refine aL rfl rfl rfl rfl rfl ?_
      refine fM rfl ?_
      exact rWeak 0 rfl (ih () (by rw [hinv, needS, if_neg h'])) rfl rfl rfl
theorem rNeeds_ok (H : Pr25 P) (a b : T) (ks : List KeyO) (js : List Jn) (hl : js.length ≤ 140737488355328) (hj : ∀ j, j ∈ js → j.Ok) (n f : Str) : FnOk P 45 [superV a b ks js, .t (.str n), .t (.str f)] ⟨[], 0⟩ { v := .t (.lst ((needS n f js).map sE)) } := by
  refine FnOk.run H.i45 H.mixed rfl rfl ?_
  refine fR rfl ?_
  refine rList js (fun i (_ : Unit) => { env := [(1, .t (.str n)), (2, .t (.str f)), (3, .ptr 0 0), (7, .t (.int .i64 i))], s := ⟨[(0, .cells [.t a, .t b, .t (.lst (ks.map KeyO.enc)), .t (.lst (js.map Jn.enc))])], 1⟩ }) (fun r i _ => needS n f js = needS n f r) 1 () rfl rfl rfl rfl rfl ?_ ?_
  · intro _ hinv
    refine fR rfl ?_
    refine lM rfl rfl rfl ?_
    refine fM rfl ?_
    refine Run.condF rfl rfl (by simp) ?_
    refine fR rfl ?_
    refine Run.fin rfl (EndOk.go ?_); exact .nil (by rw [hinv]; rfl)
  · intro i x r _ h1 hi hd hinv ih
    have hx := hj x (List.mem_of_getElem? h1)
    have hxr := hx.r
    refine fR rfl ?_
    refine lM rfl rfl rfl ?_
    refine fM rfl ?_
    refine Run.condT rfl rfl (by simp; omega) ?_
    refine fR rfl ?_
    refine Mid.elemMap rfl rfl rfl h1 rfl rfl ?_
    refine fM rfl ?_
    refine lMG rfl rfl rfl rfl ?_
    refine fM rfl ?_
    refine Run.cond rfl rfl (fun h => ?_) (fun h => ?_)
    · have h' : isN n f x = true := h
      have e : needS n f js = x.req := by rw [hinv, needS, if_pos h']
      rw [e]
      refine fR rfl ?_
      refine Run.fin rfl (EndOk.go ?_); exact .t rfl
    · have h' : ¬ isN n f x = true := by unfold isN; rw [h]; simp
      refine fR rfl ?_
      refine aL rfl rfl rfl rfl rfl ?_
      refine fM rfl ?_
      exact rWeak 1 rfl (ih () (by rw [hinv, needS, if_neg h'])) rfl rfl rfl
end Go.GB.C23


/-
  F25H: moves: the examples; the law of what is found.
-/
namespace Go.GB.C23
open Go.GB Go.GB.C11
set_option linter.unusedSimpArgs false
set_option linter.unusedVariables false
set_option maxRecDepth 100000
set_option maxHeartbeats 4000000
variable {P : Program}

def nUser : Str := [85, 115, 101, 114]
def keyDir : Dir := ⟨[107, 101, 121], [⟨[102, 105, 101, 108, 100, 115], .mk 3 0 [105, 100] [] []⟩]⟩
def idField : Field := ⟨[105, 100], [], ⟨[73, 68], [1]⟩, []⟩
def userD (fl : Str) : Def := ⟨1, nUser, [], [keyDir], [idField, ⟨fl, [], ⟨[83, 116, 114, 105, 110, 103], []⟩, []⟩], [], []⟩
def userG (nm fl : Str) : Graph := ⟨nm, [userD fl]⟩
theorem user_ok (H : Pr25 P) (nm fl : Str) : FnOk P 60 [.t (.str nm), .t (.str fl)] ⟨[], 0⟩ { v := (userG nm fl).v } := by
  refine FnOk.run H.i60 H.mixed rfl rfl ?_
  refine fR rfl ?_
  refine Run.fin rfl (EndOk.go ?_); exact .agg (.cons (.t rfl) (.cons (.own rfl) .nil))

theorem keyDir_ok : DOk keyDir := by
  refine ⟨by decide, by decide, fun a ha => ?_⟩
  simp [keyDir] at ha; subst ha
  exact ⟨by decide, .mk (by decide) (by decide) (by simp) (by decide) (by simp), by decide⟩
theorem userD_ok (fl : Str) (hf : fl.length ≤ 1000) : GK [userD fl] := by
  refine ⟨⟨(Nat.le_of_ble_eq_true rfl), ?_, (Nat.le_of_ble_eq_true rfl)⟩, (Nat.le_of_ble_eq_true rfl), ?_⟩
  · intro t ht
    simp at ht; subst ht
    refine ⟨(Nat.le_of_ble_eq_true rfl), (Nat.le_of_ble_eq_true rfl), ?_, by simp [userD], ?_, (Nat.le_of_ble_eq_true rfl), by simp [userD], (Nat.le_of_ble_eq_true rfl), by simp [userD], (Nat.le_of_ble_eq_true rfl), by simp [userD]⟩
    · intro d hd
      simp [userD] at hd; subst hd
      refine ⟨(Nat.le_of_ble_eq_true rfl), fun a ha => ?_, (Nat.le_of_ble_eq_true rfl)⟩
      simp [keyDir] at ha; subst ha
      exact .mk ((Nat.le_of_ble_eq_true rfl)) ((Nat.le_of_ble_eq_true rfl)) (by simp) ((Nat.le_of_ble_eq_true rfl)) (by simp)
    · intro x hx
      simp [userD] at hx
      rcases hx with rfl | rfl
      · exact ⟨(Nat.le_of_ble_eq_true rfl), by simp [idField], ⟨(Nat.le_of_ble_eq_true rfl), (Nat.le_of_ble_eq_true rfl)⟩, (Nat.le_of_ble_eq_true rfl), by simp [idField], (Nat.le_of_ble_eq_true rfl)⟩
      · exact ⟨(Nat.le_of_ble_eq_true rfl), by simp, ⟨(Nat.le_of_ble_eq_true rfl), (Nat.le_of_ble_eq_true rfl)⟩, (Nat.le_of_ble_eq_true rfl), by simp, by show fl.length ≤ _; omega⟩
  · intro t ht
    simp at ht; subst ht
    refine ⟨⟨(Nat.le_of_ble_eq_true rfl), fun d hd => ?_⟩, by simp [userD], fun x hx => ?_, (Nat.le_of_ble_eq_true rfl)⟩
    · simp [userD] at hd; subst hd; exact keyDir_ok
    · simp [userD] at hx
      rcases hx with rfl | rfl
      · exact ⟨DK.nil, (Nat.le_of_ble_eq_true rfl), (Nat.le_of_ble_eq_true rfl), (Nat.le_of_ble_eq_true rfl)⟩
      · exact ⟨DK.nil, (Nat.le_of_ble_eq_true rfl), (Nat.le_of_ble_eq_true rfl), by show fl.length ≤ _; omega⟩

def nName : Str := [110, 97, 109, 101]
def nPosts : Str := [112, 111, 115, 116, 115]
def g1 : List Graph := [userG [97] nName, userG [98] nPosts]
def g2 : List Graph := [userG [97] nName, userG [98] nName]
def k1 : List KeyO := [⟨nUser, 0, [[105, 100]]⟩, ⟨nUser, 1, [[105, 100]]⟩]
def j1 : List Jn := [⟨nUser, [105, 100], 0, false, [], []⟩, ⟨nUser, nName, 0, false, [], []⟩, ⟨nUser, [105, 100], 1, false, [], []⟩, ⟨nUser, nPosts, 1, false, [], []⟩]
def b2 : List Fault := [⟨40, [97, 58, 85, 115, 101, 114, 46, 110, 97, 109, 101]⟩, ⟨40, [98, 58, 85, 115, 101, 114, 46, 110, 97, 109, 101]⟩]
theorem g1_k : kAll 0 g1 = k1 := by kernel_rfl
theorem g1_j : jAll 0 g1 = j1 := by kernel_rfl
theorem g1_b : bAll g1 0 g1 = [] := by kernel_rfl
theorem g2_b : bAll g2 0 g2 = b2 := by kernel_rfl
theorem g2_k : (kAll 0 g2).length = 2 := by kernel_rfl
theorem g2_j : (jAll 0 g2).length = 4 := by kernel_rfl
theorem gs_ok {n1 n2 f1 f2 : Str} (h1 : f1.length ≤ 1000) (h2 : f2.length ≤ 1000) : ∀ g, g ∈ [userG n1 f1, userG n2 f2] → GK g.doc := by
  intro g hg
  simp at hg
  rcases hg with rfl | rfl
  · exact userD_ok _ h1
  · exact userD_ok _ h2
theorem g1_ok : JoinsB g1 := ⟨by decide, gs_ok (by decide) (by decide), by decide, by rw [g1_k]; decide, by rw [g1_j]; decide, by rw [g1_b]; decide⟩
theorem g2_ok : JoinsB g2 := ⟨by decide, gs_ok (by decide) (by decide), by decide, by rw [g2_k]; decide, by rw [g2_j]; decide, by rw [g2_b]; decide⟩
theorem j1_ok : ∀ j, j ∈ j1 → j.Ok := by
  intro j hj
  simp [j1] at hj
  rcases hj with rfl | rfl | rfl | rfl <;> exact ⟨by decide, by decide⟩
theorem ex32_ok (H : Pr25 P) : FnOk P 32 [] ⟨[], 0⟩ { v := .t (.bool true) } := by
  have h1 := joins_ok H g1 g1_ok
  rw [g1_b, if_pos rfl, if_pos rfl, g1_k, g1_j] at h1
  have h2 := joins_ok H g2 g2_ok
  rw [g2_b, if_neg (by decide), if_neg (by decide)] at h2
  have h3 := findJ_ok H (.lst []) (.lst []) k1 j1 (by decide) j1_ok nUser nName 0
  have h4 := findJ_ok H (.lst []) (.lst []) k1 j1 (by decide) j1_ok nUser nName 1
  have h5 := keysJ_ok H (.lst []) (.lst []) k1 j1 (by decide) (by intro k hk; simp [k1] at hk; rcases hk with rfl | rfl <;> decide) nUser 1
  rw [show keysS nUser 1 k1 = [[[105, 100]]] by kernel_rfl] at h5
  rw [show (findJ nUser nName 0 j1).getD Jn.zero = ⟨nUser, nName, 0, false, [], []⟩ by kernel_rfl, show (findJ nUser nName 0 j1).isSome = true by kernel_rfl] at h3
  rw [show (findJ nUser nName 1 j1).getD Jn.zero = Jn.zero by kernel_rfl, show (findJ nUser nName 1 j1).isSome = false by kernel_rfl] at h4
  refine FnOk.run H.i32 H.mixed rfl rfl ?_
  refine fR rfl ?_
  refine Mid.call (user_ok H [97] nName) rfl rfl rfl rfl ?_
  refine Mid.call (user_ok H [98] nPosts) rfl rfl rfl rfl ?_
  refine Mid.bslP rfl rfl rfl ?_
  skip
  refine Mid.call (h1) rfl rfl rfl rfl ?_
  refine fM rfl ?_
  refine Mid.call (user_ok H [97] nName) rfl rfl rfl rfl ?_
  refine Mid.call (user_ok H [98] nName) rfl rfl rfl rfl ?_
  refine Mid.bslP rfl rfl rfl ?_
  skip
  refine Mid.call (h2) rfl rfl rfl rfl ?_
  refine fM rfl ?_
  refine lM rfl rfl rfl ?_
  refine fM rfl ?_
  refine lMG rfl rfl rfl rfl ?_
  refine fM rfl ?_
  refine lMG rfl rfl rfl rfl ?_
  refine fM rfl ?_
  refine lMG rfl rfl rfl rfl ?_
  refine fM rfl ?_
  refine Run.condF rfl rfl (by decide) ?_
  refine Run.fast (f := 6) rfl trivial ?_
  refine Mid.done0 rfl ?_
  refine rWeakC 1 rfl (st' := { env := [(6, .t (.lst (b2.map Fault.enc))), (7, .ptr 0 0)], s := ⟨[(0, .cells [.t (.lst []), .t (.lst []), .t (.lst (k1.map KeyO.enc)), .t (.lst (j1.map Jn.enc))])], 1⟩ }) ?_ rfl rfl rfl
  refine fR rfl ?_
  refine Mid.call (h3) rfl rfl rfl rfl ?_
  refine fM rfl ?_
  refine Mid.call (h4) rfl rfl rfl rfl ?_
  refine fM rfl ?_
  refine caG rfl rfl (fun hg => ⟨_, rfl, h5, rfl⟩) rfl rfl ?_
  refine lMG rfl rfl rfl rfl ?_
  refine fM rfl ?_
  refine gr rfl ?_
  refine fM rfl ?_
  refine gr rfl ?_
  refine fM rfl ?_
  refine gr rfl ?_
  refine fM rfl ?_
  refine gr rfl ?_
  refine fM rfl ?_
  refine Run.fin rfl (EndOk.go ?_); exact .t rfl
end Go.GB.C23


/-
  F25I: moves: the law of what is found.
-/
namespace Go.GB.C23
open Go.GB Go.GB.C11
set_option linter.unusedSimpArgs false
set_option linter.unusedVariables false
set_option maxRecDepth 100000
set_option maxHeartbeats 4000000
variable {P : Program}

theorem keysS_len (n : Str) (g : Int) : ∀ l : List KeyO, (keysS n g l).length ≤ l.length
  | [] => by simp [keysS]
  | k :: r => by
    have := keysS_len n g r
    rw [keysS, List.length_append, List.length_cons]
    split <;> simp <;> omega
theorem finds25_ok (H : Pr25 P) (a b : T) (ks : List KeyO) (js : List Jn) (hkl : ks.length ≤ 140737488355328) (hjl : js.length ≤ 140737488355328) (hk : ∀ k, k ∈ ks → k.fields.length * 16 ≤ 140737488355328) (hj : ∀ j, j ∈ js → j.Ok) (n f : Str) (g : Int) :
    FnOk P 11 [superV a b ks js, .t (.str n), .t (.str f), .t (.int .i64 g)] ⟨[], 0⟩ { v := .t (.bool true) } := by
  refine FnOk.run H.i11 H.mixed rfl rfl ?_
  refine fR rfl ?_
  refine lM rfl rfl rfl ?_
  refine fM rfl ?_
  refine lMG rfl rfl rfl rfl ?_
  refine fM rfl ?_
  refine Run.cond rfl rfl (fun h => ?_) (fun h => ?_)
  · refine fR rfl ?_
    refine Mid.call (ex32_ok H) rfl rfl rfl rfl ?_
    refine fM rfl ?_
    refine Run.fin rfl (EndOk.go ?_); exact .t rfl
  · have hl1 : ks.length ≤ 500 := by simp at h; omega
    have h1 := findJ_ok H a b ks js hjl hj n f g
    have h2 := rFindJ_ok H a b ks js hjl n f g
    have h3 := keysJ_ok H a b ks js (by omega) hk n g
    have h4 := rKeysJ_ok H a b ks js (by omega) n g
    have h5 := needs_ok H a b ks js hjl hj n f
    have h6 := rNeeds_ok H a b ks js hjl hj n f
    have h7 := needS_len (n := n) (f := f) hj
    have hx : ((findJ n f g js).getD Jn.zero).Ok := by
      cases hq : findJ n f g js with
      | none => exact Jn.zero_ok
      | some j => exact hj j (findJ_mem hq)
    have hm : ∀ x, x ∈ keysS n g ks → x.length ≤ 140737488355328 := by
      intro x hx
      obtain ⟨k, k1, rfl⟩ := keysS_mem hx
      have := hk k k1; omega
    generalize (findJ n f g js).getD Jn.zero = j at h1 h2 hx
    generalize (findJ n f g js).isSome = o at h1 h2
    have hKl := keysS_len n g ks
    generalize keysS n g ks = K at h3 h4 hm hKl
    generalize needS n f js = N at h5 h6 h7
    refine fR rfl ?_
    refine Mid.call (h1) rfl rfl rfl rfl ?_
    refine fM rfl ?_
    refine Mid.call (h2) rfl rfl rfl rfl ?_
    refine fM rfl ?_
    refine Mid.call (h3) rfl rfl rfl rfl ?_
    refine fM rfl ?_
    refine Mid.call (h4) rfl rfl rfl rfl ?_
    refine fM rfl ?_
    refine Mid.call (sameJ_ok H j hx) rfl rfl rfl rfl ?_
    refine fM rfl ?_
    refine lMG rfl rfl rfl rfl ?_
    refine fM rfl ?_
    refine lMG rfl rfl rfl rfl ?_
    refine fM rfl ?_
    refine caG rfl rfl (fun hg => ⟨_, rfl, h5, rfl⟩) rfl rfl ?_
    refine fM rfl ?_
    refine caG rfl rfl (fun hg => ⟨_, rfl, h6, rfl⟩) rfl rfl ?_
    skip
    refine caG rfl rfl (fun hg => ⟨_, rfl, texts_ok H N N h7 h7, rfl⟩) rfl rfl ?_
    refine fM rfl ?_
    refine Run.condF rfl rfl (by simp) ?_
    refine fR rfl ?_
    refine rList K (fun i (_ : Unit) => { env := [(13, .t (.lst (K.map lE))), (14, .t (.lst (K.map lE))), (15, .t (.int .i64 i))], s := ⟨[], 0⟩ }) (fun r i _ => True) 0 () rfl trivial rfl rfl rfl ?_ ?_
    · rintro _ _
      refine fR rfl ?_
      refine lM rfl rfl rfl ?_
      refine fM rfl ?_
      refine Run.condF rfl rfl (by simp) ?_
      refine fR rfl ?_
      refine Mid.call (ex32_ok H) rfl rfl rfl rfl ?_
      refine fM rfl ?_
      refine Run.fin rfl (EndOk.go ?_); exact .t rfl
    · rintro i x r _ g1 hi hdr _ ih
      have hx := hm x (List.mem_of_getElem? g1)
      refine fR rfl ?_
      refine lM rfl rfl rfl ?_
      refine fM rfl ?_
      refine Run.condT rfl rfl (by simp; omega) ?_
      refine fR rfl ?_
      refine Mid.elemMap rfl rfl rfl g1 rfl rfl ?_
      refine fM rfl ?_
      refine Mid.elemMap rfl rfl rfl g1 rfl rfl ?_
      refine fM rfl ?_
      refine Mid.call (texts_ok H x x hx hx) rfl rfl rfl rfl ?_
      refine fM rfl ?_
      refine Run.condF rfl rfl (by simp) ?_
      refine fR rfl ?_
      refine aL rfl rfl rfl rfl rfl ?_
      refine fM rfl ?_
      exact rWeak 0 rfl (ih () trivial) rfl rfl rfl
end Go.GB.C23


/-
  D11R: shapes of chapter 11's arguments.
-/
namespace Go.GB.C11
open Go.GB

theorem spV_ok {P : Program} {vt : TypeId} (hb : P.bytesOf vt = 80) (hs : shOf P (spV vt) 6 vt = some valSh) :
    ∀ e i n xs, spV vt e = some i → xs.length * P.bytesOf e ≤ reachBytes → xs.length ≤ maxLen → (∀ c ∈ xs, WT P n e c) → YA i (.lst xs) := by
  have hv := val_wt hb hs
  intro e i k xs he hr hl hc
  have := reach_le
  unfold spV at he
  split at he
  · rename_i e1; subst e1
    simp only [Option.some.injEq] at he; subst he
    obtain ⟨l, rfl, h3⟩ := choose_map (f := Val.enc) (Q := Val.Ok) xs fun c hcm => hv k c (hc c hcm)
    rw [hb] at hr
    exact ⟨l, rfl, by unfold B47; simp at hr; omega, h3⟩
  · cases he
end Go.GB.C11


/-
  F25J: shapes of graphs and supergraphs, as laws are handed them.
-/
namespace Go.GB.C23
open Go.GB Go.GB.C11
set_option linter.unusedSimpArgs false
set_option linter.unusedVariables false

theorem int_sh0 {c : List T} (h : Sh.oks YA [.int .i64] c) : ∃ n : Int, c = [.int .i64 n] := by
  obtain ⟨x, c, rfl, ⟨n, rfl, _⟩, g⟩ := Sh.oks_cons h
  obtain rfl := Sh.oks_nil g
  exact ⟨n, rfl⟩
theorem str_sh1 {c : List T} (h : Sh.oks YA [.str] c) : ∃ s : Str, c = [.str s] ∧ s.length ≤ 140737488355328 := by
  have := reach_le
  obtain ⟨x, c, rfl, ⟨s, rfl, hs⟩, g⟩ := Sh.oks_cons h
  obtain rfl := Sh.oks_nil g
  exact ⟨s, rfl, by omega⟩
def keyoSh : List Sh := [.str, .int .i64, .lst 16 [.str]]
def jnSh : List Sh := [.str, .str, .int .i64, .bool, .lst 16 [.str], .lst 16 [.str]]
def superSh : List Sh := [.lst 16 [.str], .lst 144 defSh, .lst 48 keyoSh, .lst 96 jnSh]
theorem keyo_sh {c : List T} (h : Sh.oks YA keyoSh c) : ∃ k : KeyO, c = k.enc ∧ k.fields.length * 16 ≤ 140737488355328 := by
  have := reach_le
  obtain ⟨x, c, rfl, ⟨n, rfl, hn⟩, g1⟩ := Sh.oks_cons h
  obtain ⟨x, c, rfl, ⟨m, rfl, _⟩, g2⟩ := Sh.oks_cons g1
  obtain ⟨x, c, rfl, hx, g3⟩ := Sh.oks_cons g2
  obtain rfl := Sh.oks_nil g3
  obtain ⟨l, rfl, h1, _⟩ := strs_of hx
  exact ⟨⟨n, m, l⟩, rfl, by show l.length * 16 ≤ _; omega⟩
theorem jn_sh {c : List T} (h : Sh.oks YA jnSh c) : ∃ j : Jn, c = j.enc ∧ (j.req.length * 16 ≤ 140737488355328 ∧ j.prov.length * 16 ≤ 140737488355328) := by
  have := reach_le
  obtain ⟨x, c, rfl, ⟨n, rfl, hn⟩, g1⟩ := Sh.oks_cons h
  obtain ⟨x, c, rfl, ⟨f, rfl, hf⟩, g2⟩ := Sh.oks_cons g1
  obtain ⟨x, c, rfl, ⟨m, rfl, _⟩, g3⟩ := Sh.oks_cons g2
  obtain ⟨x, c, rfl, ⟨b, rfl⟩, g4⟩ := Sh.oks_cons g3
  obtain ⟨x, c, rfl, hx, g5⟩ := Sh.oks_cons g4
  obtain ⟨l, rfl, h1, _⟩ := strs_of hx
  obtain ⟨x, c, rfl, hx, g6⟩ := Sh.oks_cons g5
  obtain rfl := Sh.oks_nil g6
  obtain ⟨l2, rfl, h2, _⟩ := strs_of hx
  exact ⟨⟨n, f, m, b, l, l2⟩, rfl, by show l.length * 16 ≤ _; omega, by show l2.length * 16 ≤ _; omega⟩
theorem super_sh0 {c : List T} (h : Sh.oks YA superSh c) : ∃ (a b : T) (ks : List KeyO) (js : List Jn), c = [a, b, .lst (ks.map KeyO.enc), .lst (js.map Jn.enc)] ∧ (ks.length ≤ 140737488355328 ∧ js.length ≤ 140737488355328) ∧ (∀ k, k ∈ ks → k.fields.length * 16 ≤ 140737488355328) ∧ ∀ j, j ∈ js → j.req.length * 16 ≤ 140737488355328 ∧ j.prov.length * 16 ≤ 140737488355328 := by
  have := reach_le
  obtain ⟨a, c, rfl, _, g1⟩ := Sh.oks_cons h
  obtain ⟨b, c, rfl, _, g2⟩ := Sh.oks_cons g1
  obtain ⟨x, c, rfl, hx, g3⟩ := Sh.oks_cons g2
  obtain ⟨ks, rfl, h1, _, h2⟩ := list_of (fun c hc => keyo_sh hc) hx
  obtain ⟨x, c, rfl, hx, g4⟩ := Sh.oks_cons g3
  obtain rfl := Sh.oks_nil g4
  obtain ⟨js, rfl, h3, _, h4⟩ := list_of (fun c hc => jn_sh hc) hx
  exact ⟨a, b, ks, js, rfl, ⟨by omega, by omega⟩, h2, h4⟩
end Go.GB.C23

