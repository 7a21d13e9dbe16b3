/-
  YtjbpmfglccfkaaaDoorP7: lemmas of this proof (part 7). No conditions.
-/
import Derived.Test.YtjbpmfglccfkaaaDoorP6
import Derived.Test.YtjbpmfglccfkaaaDoorP3

/-
  F23C: chapter 23's functions: parts of texts, sets of fields.
-/
namespace Go.GB.C23
open Go.GB Go.GB.C11
set_option linter.unusedSimpArgs false
set_option linter.unusedVariables false
set_option maxRecDepth 100000
set_option maxHeartbeats 2000000
variable {P : Program}

structure Pr23 (P : Program) : Prop extends Pr P where
  i3 : fnInfo P 3 = some (n3, c3.bare, r3)
  i4 : fnInfo P 4 = some (n4, c4.bare, r4)
  i13 : fnInfo P 13 = some (n13, c13.bare, r13)
  i14 : fnInfo P 14 = some (n14, c14.bare, r14)
  i18 : fnInfo P 18 = some (n18, c18.bare, r18)
  i19 : fnInfo P 19 = some (n19, c19.bare, r19)
  i23 : fnInfo P 23 = some (n23, c23.bare, r23)
  i25 : fnInfo P 25 = some (n25, c25.bare, r25)
  i46 : fnInfo P 46 = some (n46, c46.bare, r46)
  i47 : fnInfo P 47 = some (n47, c47.bare, r47)
  i48 : fnInfo P 48 = some (n48, c48.bare, r48)
  i49 : fnInfo P 49 = some (n49, c49.bare, r49)
  i53 : fnInfo P 53 = some (n53, c53.bare, r53)
  i54 : fnInfo P 54 = some (n54, c54.bare, r54)
  i55 : fnInfo P 55 = some (n55, c55.bare, r55)
  i56 : fnInfo P 56 = some (n56, c56.bare, r56)
  i57 : fnInfo P 57 = some (n57, c57.bare, r57)
  i69 : fnInfo P 69 = some (n69, c69.bare, r69)
  i70 : fnInfo P 70 = some (n70, c70.bare, r70)
  i74 : fnInfo P 74 = some (n74, c74.bare, r74)
  i75 : fnInfo P 75 = some (n75, c75.bare, r75)
  i89 : fnInfo P 89 = some (n89, c89.bare, r89)
  i90 : fnInfo P 90 = some (n90, c90.bare, r90)
  i91 : fnInfo P 91 = some (n91, c91.bare, r91)
  i94 : fnInfo P 94 = some (n94, c94.bare, r94)
  i95 : fnInfo P 95 = some (n95, c95.bare, r95)
  i96 : fnInfo P 96 = some (n96, c96.bare, r96)
  i116 : fnInfo P 116 = some (n116, c116.bare, r116)
  i130 : fnInfo P 130 = some (n130, c130.bare, r130)

/- names -/
def okB (b : UInt8) : Bool := letF b.toNat || digF b.toNat
theorem nmOk_all : ∀ (s : Str), nmOk false s = s.all okB
  | [] => rfl
  | c :: r => by simp [nmOk, okB, nmOk_all r]
theorem let_dig (c : Int) (h : digF c = true) : letF c = false := by
  unfold digF at h; unfold letF
  simp only [Bool.and_eq_true, decide_eq_true_eq] at h
  have h1 : ¬ c ≥ 65 := by omega
  have h2 : ¬ c ≥ 97 := by omega
  have h3 : ¬ c = 95 := by omega
  simp [h1, h2, h3]
theorem nameF_eq (s : Str) : nameF s = (decide (1 ≤ s.length ∧ s.length ≤ 64) && (!(match s with | [] => false | c :: _ => digF c.toNat) && s.all okB)) := by
  unfold nameF
  cases s with
  | nil => rfl
  | cons c r =>
    simp only [nmOk, nmOk_all, List.all_cons, okB]
    cases hd : digF c.toNat with
    | false => simp
    | true => rw [let_dig _ hd]; simp
theorem tname_ok (H : Pr23 P) (s : Str) (hs : s.length ≤ 140737488355328) : FnOk P 47 [.t (.str s)] ⟨[], 0⟩ { v := .t (.bool (nameF s)) } := by
  cases s with
  | nil =>
    refine FnOk.run H.i47 H.mixed rfl rfl ?_
    refine fR rfl ?_
    refine Mid.grdF rfl rfl rfl rfl rfl ?_
    refine Mid.grdF rfl rfl rfl rfl rfl ?_
    refine fM rfl ?_
    refine Mid.grdF rfl rfl rfl rfl rfl ?_
    refine Mid.grdF rfl rfl rfl rfl rfl ?_
    refine Mid.grdF rfl rfl rfl rfl rfl ?_
    refine fM rfl ?_
    refine Run.condT rfl rfl rfl ?_
    refine fR rfl ?_
    refine Run.fin rfl (EndOk.go ?_); exact .t rfl
  | cons c r =>
    have e := nameF_eq (c :: r)
    simp only at e
    refine FnOk.run H.i47 H.mixed rfl rfl ?_
    refine fR rfl ?_
    refine gr rfl ?_
    refine fM rfl ?_
    refine gr rfl ?_
    refine fM rfl ?_
    refine Run.cond rfl rfl (fun h => ?_) (fun h => ?_)
    · refine fR rfl ?_
      have h' : decide (((c :: r).length : Int) > 64) = true ∨ digF c.toNat = true := by
        unfold digF
        simpa using h
      refine Run.fin rfl (EndOk.go ?_); exact .t (by
        rw [e]
        rcases h' with h' | h'
        · have : ¬ (1 ≤ (c :: r).length ∧ (c :: r).length ≤ 64) := by
            have := of_decide_eq_true h'
            omega
          rw [decide_eq_false this]; rfl
        · rw [h']; simp)
    · have hl : (c :: r).length ≤ 64 ∧ digF c.toNat = false := by
        unfold digF
        simp only [Bool.or_eq_false_iff] at h
        refine ⟨?_, h.2⟩
        have := of_decide_eq_false h.1.2
        omega
      have e2 : nameF (c :: r) = (c :: r).all okB := by
        rw [e, hl.2, decide_eq_true ⟨by simp, hl.1⟩]; rfl
      refine fR rfl ?_
      refine rList (c :: r) (fun i (_ : Unit) => { env := [(0, .t (.str (c :: r))), (23, .t (.int .i64 (c :: r).length)), (24, .t (.int .i64 i))], s := ⟨[], 0⟩ }) (fun r' i _ => (c :: r).all okB = r'.all okB) 0 () rfl rfl rfl rfl rfl ?_ ?_
      · intro _ hinv
        refine fR rfl ?_
        refine Run.condF rfl rfl (by simp) ?_
        refine fR rfl ?_
        refine Run.fin rfl (EndOk.go ?_); exact .t (by rw [e2, hinv]; rfl)
      · intro i b r' _ h1 hi hd hinv ih
        refine fR rfl ?_
        refine Run.condT rfl rfl (by simp at hi ⊢; omega) ?_
        refine fR rfl ?_
        refine Mid.byte rfl rfl h1 rfl ?_
        refine fM rfl ?_
        have ho : ((((decide ((b.toNat : Int) ≥ 97) && decide ((b.toNat : Int) ≤ 122)) || (decide ((b.toNat : Int) ≥ 65) && decide ((b.toNat : Int) ≤ 90))) || (decide ((b.toNat : Int) ≥ 48) && decide ((b.toNat : Int) ≤ 57))) || (b.toNat : Int) == 95) = okB b := by
          unfold okB letF digF
          generalize (decide ((b.toNat : Int) ≥ 97) && decide ((b.toNat : Int) ≤ 122)) = x1
          generalize (decide ((b.toNat : Int) ≥ 65) && decide ((b.toNat : Int) ≤ 90)) = x2
          generalize (decide ((b.toNat : Int) ≥ 48) && decide ((b.toNat : Int) ≤ 57)) = x3
          generalize ((b.toNat : Int) == 95) = x4
          cases x1 <;> cases x2 <;> cases x3 <;> cases x4 <;> rfl
        refine Run.cond rfl rfl (fun hc => ?_) (fun hc => ?_)
        · have hc' : okB b = false := by rw [ho] at hc; simpa using hc
          refine fR rfl ?_
          refine Run.fin rfl (EndOk.go ?_); exact .t (by rw [e2, hinv, List.all_cons, hc']; rfl)
        · have hc' : okB b = true := by rw [ho] at hc; simpa using hc
          refine fR rfl ?_
          refine aL rfl rfl rfl rfl rfl ?_
          refine fM rfl ?_
          exact rWeak 0 rfl (ih () (by rw [hinv, List.all_cons, hc']; rfl)) rfl rfl rfl
theorem hasPre_ok (H : Pr23 P) (s : Str) (hs : s.length ≤ 140737488355328) : FnOk P 91 [.t (.str s), .t (.str [95, 95])] ⟨[], 0⟩ { v := .t (.bool (resF s)) } := by
  match s, hs with
  | [], _ =>
    refine FnOk.run H.i91 H.mixed rfl rfl ?_
    refine fR rfl ?_
    refine gr rfl ?_
    refine fM rfl ?_
    skip
    refine Run.fin rfl (EndOk.go ?_); exact .t rfl
  | [a], _ =>
    refine FnOk.run H.i91 H.mixed rfl rfl ?_
    refine fR rfl ?_
    refine gr rfl ?_
    refine fM rfl ?_
    skip
    refine Run.fin rfl (EndOk.go ?_); exact .t rfl
  | a :: b :: r, hs =>
    refine FnOk.run H.i91 H.mixed rfl rfl ?_
    refine fR rfl ?_
    refine gr rfl ?_
    refine fM rfl ?_
    have e : (a :: b :: r : Str).take 2 = [a, b] := rfl
    refine Run.fin rfl (EndOk.go ?_); exact .t (by
      have h2 : ((a.toNat : Int) == 95) = (a == 95) := by
        rw [Bool.eq_iff_iff, beq_iff_eq, beq_iff_eq]
        exact ⟨fun h => UInt8.toNat_inj.1 (by have : a.toNat = 95 := by omega
                                              exact this), fun h => by rw [h]; rfl⟩
      have h3 : ((b.toNat : Int) == 95) = (b == 95) := by
        rw [Bool.eq_iff_iff, beq_iff_eq, beq_iff_eq]
        exact ⟨fun h => UInt8.toNat_inj.1 (by have : b.toNat = 95 := by omega
                                              exact this), fun h => by rw [h]; rfl⟩
      refine congrArg T.bool ?_
      show (_ && ([a, b] == ([95, 95] : Str))) = ((a.toNat : Int) == 95 && (b.toNat : Int) == 95)
      rw [h2, h3]
      have h4 : decide (((a :: b :: r : Str).length : Int) ≥ (([95, 95] : Str).length : Int)) = true := by simp; omega
      rw [h4]
      simp)
theorem strPre_ok (H : Pr23 P) (s : Str) (hs : s.length ≤ 140737488355328) : FnOk P 70 [.t (.str s), .t (.str [95, 95])] ⟨[], 0⟩ { v := .t (.bool (resF s)) } := by
  refine FnOk.run H.i70 H.mixed rfl rfl ?_
  refine fR rfl ?_
  refine Mid.call (hasPre_ok H s hs) rfl rfl rfl rfl ?_
  refine fM rfl ?_
  refine Run.fin rfl (EndOk.go ?_); exact .t rfl
theorem treserved_ok (H : Pr23 P) (s : Str) (hs : s.length ≤ 140737488355328) : FnOk P 48 [.t (.str s)] ⟨[], 0⟩ { v := .t (.bool (resF s)) } := by
  refine FnOk.run H.i48 H.mixed rfl rfl ?_
  refine fR rfl ?_
  refine Mid.call (strPre_ok H s hs) rfl rfl rfl rfl ?_
  refine fM rfl ?_
  refine Run.fin rfl (EndOk.go ?_); exact .t rfl

/- parts -/
theorem idxByte_ok (H : Pr23 P) (s : Str) (hs : s.length ≤ 140737488355328) : FnOk P 130 [.t (.str s), .t (.int .u8 32)] ⟨[], 0⟩ { v := .t (.int .i64 (Go.Lib.indexByte s 32)) } := by
  refine FnOk.run H.i130 H.mixed rfl rfl ?_
  refine fR rfl ?_
  refine p0 rfl ?_
  refine fM rfl ?_
  refine Run.fin rfl (EndOk.go ?_); exact .t rfl
theorem sIndex_ok (H : Pr23 P) (s : Str) (hs : s.length ≤ 140737488355328) : FnOk P 116 [.t (.str s), .t (.str [32])] ⟨[], 0⟩ { v := .t (.int .i64 (Go.Lib.indexByte s 32)) } := by
  refine FnOk.run H.i116 H.mixed rfl rfl ?_
  refine fR rfl ?_
  refine Run.cond rfl rfl (fun h => ?_) (fun h => ?_)
  · have h' : s = [32] := by
      have h2 : [32] = s := by simpa using h
      exact h2.symm
    subst h'
    refine fR rfl ?_
    refine Run.fin rfl (EndOk.go ?_); exact .t rfl
  · refine fR rfl ?_
    refine Run.condT rfl rfl rfl ?_
    refine fR rfl ?_
    refine pu rfl ?_
    refine Mid.call (idxByte_ok H s hs) rfl rfl rfl rfl ?_
    refine fM rfl ?_
    refine Run.fin rfl (EndOk.go ?_); exact .t rfl
theorem index_ok (H : Pr23 P) (s : Str) (hs : s.length ≤ 140737488355328) : FnOk P 90 [.t (.str s), .t (.str [32])] ⟨[], 0⟩ { v := .t (.int .i64 (Go.Lib.indexByte s 32)) } := by
  refine FnOk.run H.i90 H.mixed rfl rfl ?_
  refine fR rfl ?_
  refine Mid.call (sIndex_ok H s hs) rfl rfl rfl rfl ?_
  refine fM rfl ?_
  refine Run.fin rfl (EndOk.go ?_); exact .t rfl
theorem count_ok (H : Pr23 P) (s : Str) (hs : s.length ≤ 140737488355328) : FnOk P 89 [.t (.str s), .t (.str [32])] ⟨[], 0⟩ { v := .t (.int .i64 (s.count 32)) } := by
  refine FnOk.run H.i89 H.mixed rfl rfl ?_
  refine fR rfl ?_
  refine Run.condF rfl rfl rfl ?_
  refine fR rfl ?_
  refine Run.condT rfl rfl rfl ?_
  refine fR rfl ?_
  refine pu rfl ?_
  refine p0 rfl ?_
  refine fM rfl ?_
  refine Run.fin rfl (EndOk.go ?_); exact .t rfl
end Go.GB.C23


/-
  F23D: chapter 23's functions: sets of fields.
-/
namespace Go.GB.C23
open Go.GB Go.GB.C11
set_option linter.unusedSimpArgs false
set_option linter.unusedVariables false
set_option maxRecDepth 100000
set_option maxHeartbeats 2000000
variable {P : Program}

theorem idx_split : ∀ {s : Str}, 0 < s.count 32 → ∃ m : Nat, Go.Lib.indexByte s 32 = m ∧ m < s.length ∧ ¬ (32 : UInt8) ∈ s.take m ∧ s = s.take m ++ 32 :: s.drop (m + 1)
  | [], h => by simp at h
  | c :: r, h => by
    by_cases hc : c = 32
    · subst hc
      exact ⟨0, by simp [Go.Lib.indexByte], by simp, by simp, by simp⟩
    · have h1 : 0 < r.count 32 := by
        rw [List.count_cons_of_ne (fun e => hc e)] at h; exact h
      obtain ⟨m, h2, h3, h4, h5⟩ := idx_split h1
      refine ⟨m + 1, ?_, by simp; omega, ?_, ?_⟩
      · unfold Go.Lib.indexByte
        have hb : (c == 32) = false := by simpa using hc
        rw [hb, h2]
        simp
      · simp only [List.take_succ_cons, List.mem_cons, not_or]
        exact ⟨fun e => hc e.symm, h4⟩
      · simp only [List.take_succ_cons, List.drop_succ_cons, List.cons_append]
        rw [← h5]
theorem count_app (a b : Str) (h : ¬ (32 : UInt8) ∈ a) : (a ++ 32 :: b).count 32 = b.count 32 + 1 := by
  rw [List.count_append, List.count_eq_zero_of_not_mem h]; simp
/-- the state of the splitting -/
structure SpOk (s : Str) (n i : Nat) (r : Str) (A : List Str) : Prop where
  len : A.length = n + 1
  cnt : i + r.count 32 = n
  eq : splS s = A.take i ++ splS r
  le : r.length ≤ s.length
theorem set_take' {α : Type} (A : List α) (i : Nat) (x : α) (h : i < A.length) : (A.set i x).take (i + 1) = A.take i ++ [x] := by
  rw [List.take_add_one, List.getElem?_set_self h, List.take_set_of_le (Nat.le_refl i)]; rfl
theorem genSplit_ok (H : Pr23 P) (s : Str) (hs : s.length ≤ 140737488355328) (hc : s.count 32 < 8796093022208) : FnOk P 69 [.t (.str s), .t (.str [32]), .t (.int .i64 0), .t (.int .i64 (-1))] ⟨[], 0⟩ { v := .t (.lst ((splS s).map sE)) } := by
  have hcl : s.count 32 ≤ s.length := List.count_le_length
  refine FnOk.run H.i69 H.mixed rfl rfl ?_
  refine fR rfl ?_
  refine Run.condF rfl rfl rfl ?_
  refine fR rfl ?_
  refine Run.condF rfl rfl rfl ?_
  refine fR rfl ?_
  refine Run.condT rfl rfl rfl ?_
  refine fR rfl ?_
  refine Mid.call (count_ok H s hs) rfl rfl rfl rfl ?_
  refine aL rfl rfl rfl rfl rfl ?_
  refine fM rfl ?_
  refine aL rfl rfl rfl rfl rfl ?_
  refine fM rfl ?_
  have e : (if ((s.length + 1 : Nat) : Int) < ((s.count 32 + 1 : Nat) : Int) then ((s.length + 1 : Nat) : Int) else ((s.count 32 + 1 : Nat) : Int)) = ((s.count 32 + 1 : Nat) : Int) := by rw [if_neg (by omega)]
  rw [e]
  refine Mid.makeE [([] : Str)] (ev := T.str) rfl (by omega) (by omega) rfl rfl rfl ?_
  refine fM rfl ?_
  refine s64 rfl rfl rfl ?_
  refine fM rfl ?_
  generalize hn : s.count 32 = n at hc hcl
  refine rLoopM (β := Nat × Str × List Str) (fun b => { env := [(0, .t (.str b.2.1)), (1, .t (.str [32])), (2, .t (.int .i64 0)), (3, .t (.int .i64 n)), (9, .slc 0 0 (n + 1) 1), (10, .t (.int .i64 b.1))], s := ⟨[(0, .cells (cE T.str b.2.2))], 1⟩ })
    (fun b => SpOk s n b.1 b.2.1 b.2.2) (fun b => n - b.1) 1 (0, s, (List.replicate (n + 1) [([] : Str)]).flatten) rfl ⟨by simp, by simp [hn], by simp, Nat.le_refl _⟩ rfl rfl rfl ?_
  rintro ⟨i, r, A⟩ hinv ih
  have hA := hinv.len
  have hcn := hinv.cnt
  have heq := hinv.eq
  have hle := hinv.le
  simp only at hA hcn heq hle
  by_cases hi : i < n
  · obtain ⟨m, h1, h2, h3, h4⟩ := idx_split (s := r) (by omega)
    have hix := index_ok H r (by omega)
    rw [h1] at hix
    refine fR rfl ?_
    refine Run.condT rfl rfl (by simp; omega) ?_
    refine fR rfl ?_
    refine Mid.call (hix) rfl rfl rfl rfl ?_
    refine fM rfl ?_
    refine Run.condF rfl rfl (by simp) ?_
    refine fR rfl ?_
    refine aL rfl rfl rfl rfl rfl ?_
    refine pu rfl ?_
    refine Mid.iaS rfl rfl (by omega) rfl ?_
    refine Mid.stE rfl rfl ((by simp only; omega)) rfl rfl ?_
    refine fM rfl ?_
    refine aL rfl rfl rfl rfl rfl ?_
    refine pu rfl ?_
    refine fM rfl ?_
    refine aL rfl rfl rfl rfl rfl ?_
    refine fM rfl ?_
    have hc2 : r.count 32 = (r.drop (m + 1)).count 32 + 1 := by
      have := count_app (r.take m) (r.drop (m + 1)) h3
      rw [← h4] at this; exact this
    have hs2 : splS r = r.take m :: splS (r.drop (m + 1)) := by
      have := splS_app (a := r.take m) (b := r.drop (m + 1)) h3
      rw [← h4] at this; exact this
    exact rWeak 1 rfl (ih (i + 1, r.drop (m + 1), A.set i (r.take m)) (by simp only; omega) ⟨by simp only [List.length_set]; exact hA, by simp only; omega, by
      simp only
      rw [set_take' _ _ _ (by omega), heq, hs2, List.append_assoc]; rfl, by simp only [List.length_drop]; omega⟩) rfl rfl rfl
  · have hin : i = n := by omega
    subst hin
    have hc0 : r.count 32 = 0 := by omega
    have hs2 : splS r = [r] := splS_none (List.count_eq_zero.1 hc0)
    refine fR rfl ?_
    refine Run.condF rfl rfl (by simp) ?_
    refine fR rfl ?_
    refine Mid.iaS rfl rfl (by omega) rfl ?_
    refine Mid.stE rfl rfl ((by simp only; omega)) rfl rfl ?_
    refine fM rfl ?_
    refine aL rfl rfl rfl rfl rfl ?_
    refine pu rfl ?_
    refine fM rfl ?_
    refine Run.fin rfl (EndOk.chg rfl rfl ?_ ?_)
    · have hl : splS s = A.set i r := by
        rw [heq, hs2, ← set_take' _ _ _ (by omega), List.take_of_length_le (by rw [List.length_set]; omega)]
      rw [hl, show A.set i r = A.set (0 + i * 1) r by rw [Nat.zero_add, Nat.mul_one]]
      exact LeR.slcE (Nat.zero_le _) rfl (by rw [List.length_set]; simp only; omega)
    · exact (by repeat' (first | exact trivial | exact LeX.t | exact LeX.top | exact LeX.nilOwn (Nat.le_of_ble_eq_true rfl) (Nat.le_of_ble_eq_true rfl) | exact LeX.ownT | exact LeX.nilT | exact LeX.same rfl | exact LeX.tEq (by simp) | exact LeX.ownEq (by simp) (Nat.le_of_ble_eq_true rfl) | exact LeX.tEq (by congr 1 <;> omega) | exact Or.inr ⟨Nat.le_of_ble_eq_true rfl, Nat.le_of_ble_eq_true rfl, rfl⟩ | refine Or.inl ⟨Nat.le_of_ble_eq_true rfl, _, rfl, ?_⟩ | refine LeO.cells ?_ | exact LeO.arr rfl | exact LeO.arr (by simp) | exact LeO.mE (by first | rfl | simp) (by first | exact Or.inl rfl | exact Or.inr rfl) | exact LeO.cE (by first | rfl | simp) | exact LeXs.cE (by first | rfl | simp) | refine LeO.map (by first | rfl | simp) ?_ (by first | exact Or.inl rfl | exact Or.inr rfl) | exact LeO.iter (by first | rfl | simp) (Nat.le_of_ble_eq_true rfl) | refine LeXs.cons ?_ ?_ | exact LeXs.nil | refine And.intro ?_ ?_))
theorem split_ok (H : Pr23 P) (s : Str) (hs : s.length ≤ 140737488355328) (hc : s.count 32 < 8796093022208) : FnOk P 46 [.t (.str s), .t (.str [32])] ⟨[], 0⟩ { v := .t (.lst ((splS s).map sE)) } := by
  refine FnOk.run H.i46 H.mixed rfl rfl ?_
  refine fR rfl ?_
  refine Mid.call (genSplit_ok H s hs hc) rfl rfl rfl rfl ?_
  refine fM rfl ?_
  refine Run.fin rfl (EndOk.go ?_); exact .t rfl
theorem dSet_ok (H : Pr23 P) (s : Str) (hs : s.length ≤ 140737488355328) (hc : s.count 32 < 8796093022208) : FnOk P 13 [.t (.str s)] ⟨[], 0⟩ { v := .tup [.t (.lst ((setF s).1.map sE)), .t (.int .i64 (setF s).2)] } := by
  have hsp := split_ok H s hs hc
  have hll := splS_len s
  have hel : ∀ x, x ∈ splS s → x.length ≤ 140737488355328 := fun x hx => Nat.le_trans (splS_mem hx) hs
  have hR : ∀ R, setF s = R → FnOk P 13 [.t (.str s)] ⟨[], 0⟩ { v := .tup [.t (.lst (R.1.map sE)), .t (.int .i64 R.2)] } := by
    intro R hR
    unfold setF at hR
    generalize splS s = l at hsp hll hel hR
    refine FnOk.run H.i13 H.mixed rfl rfl ?_
    refine fR rfl ?_
    refine Mid.call (hsp) rfl rfl rfl rfl ?_
    refine fM rfl ?_
    refine lM rfl rfl rfl ?_
    refine fM rfl ?_
    refine rList l (fun i (_ : Unit) => { env := [(4, .t (.lst (l.map sE))), (11, .t (.lst (l.map sE))), (12, .t (.int .i64 l.length)), (13, .t (.int .i64 i))], s := ⟨[], 0⟩ }) (fun r i _ => (l.any fun x => !nameF x || resF x) = r.any fun x => !nameF x || resF x) 0 () rfl rfl rfl rfl rfl ?_ ?_
    · intro _ hinv
      have hb : (l.any fun x => !nameF x || resF x) = false := by rw [hinv]; rfl
      unfold setL at hR
      rw [if_neg (by rw [hb]; simp)] at hR
      refine fR rfl ?_
      refine Run.condF rfl rfl (by simp) ?_
      refine fR rfl ?_
      refine lM rfl rfl rfl ?_
      refine fM rfl ?_
      refine Run.cond rfl rfl (fun h4 => ?_) (fun h4 => ?_)
      · have h4' : l.length > 4 := by simp at h4; omega
        rw [if_pos h4'] at hR
        subst hR
        refine fR rfl ?_
        refine Run.fin rfl (EndOk.go ?_); exact .tup2 (.nil rfl) (.t rfl)
      · have h4' : ¬ l.length > 4 := by simp at h4; omega
        rw [if_neg h4'] at hR
        refine fR rfl ?_
        refine lM rfl rfl rfl ?_
        refine fM rfl ?_
        refine rList l (fun i (_ : Unit) => { env := [(4, .t (.lst (l.map sE))), (29, .t (.int .i64 l.length)), (30, .t (.int .i64 i))], s := ⟨[], 0⟩ }) (fun r i _ => dupS [] l = dupS (l.take i) r) 0 () rfl rfl rfl rfl rfl ?_ ?_
        · intro _ hd
          rw [if_neg (by rw [hd]; simp [dupS])] at hR
          subst hR
          refine fR rfl ?_
          refine Run.condF rfl rfl (by simp) ?_
          refine fR rfl ?_
          refine Run.fin rfl (EndOk.go ?_); exact .tup2 (.t rfl) (.t rfl)
        · intro i x r _ h1 hi hdr hd ih
          have htk : l.take i ++ [x] = l.take (i + 1) := by rw [List.take_add_one, h1]; rfl
          refine fR rfl ?_
          refine Run.condT rfl rfl (by simp; omega) ?_
          refine fR rfl ?_
          refine rList (l.take i) (fun k (_ : Unit) => { env := [(4, .t (.lst (l.map sE))), (7, .t (.int .i64 i)), (29, .t (.int .i64 l.length)), (30, .t (.int .i64 i)), (33, .t (.int .i64 i)), (34, .t (.int .i64 k))], s := ⟨[], 0⟩ }) (fun r' k _ => decide (x ∈ l.take i) = decide (x ∈ r')) 0 () rfl rfl rfl rfl rfl ?_ ?_
          · intro _ hm
            have hm' : ¬ x ∈ l.take i := by simpa using hm
            refine fR rfl ?_
            refine Run.condF rfl rfl (by simp; omega) ?_
            refine fR rfl ?_
            refine aL rfl rfl rfl rfl rfl ?_
            refine fM rfl ?_
            exact rWeak 0 rfl (ih () (by rw [hd, dupS, ← htk]; simp [hm'])) rfl rfl rfl
          · intro k y r' _ g1 gi gd hm ih2
            have gi' : k < i := by rw [List.length_take] at gi; omega
            have g2 : l[k]? = some y := by rw [List.getElem?_take, if_pos gi'] at g1; exact g1
            refine fR rfl ?_
            refine Run.condT rfl rfl (by simp; omega) ?_
            refine fR rfl ?_
            refine Mid.elemMap rfl rfl rfl h1 rfl rfl ?_
            refine fM rfl ?_
            refine Mid.elemMap rfl rfl rfl g2 rfl rfl ?_
            refine fM rfl ?_
            refine Run.cond rfl rfl (fun he => ?_) (fun he => ?_)
            · have he' : x = y := by simpa using he
              have hmem : x ∈ l.take i := by
                have := hm.trans (decide_eq_true (by rw [he']; exact List.mem_cons_self ..))
                exact of_decide_eq_true this
              rw [if_pos (by rw [hd, dupS, decide_eq_true hmem]; rfl)] at hR
              subst hR
              refine fR rfl ?_
              refine Run.fin rfl (EndOk.go ?_); exact .tup2 (.nil rfl) (.t rfl)
            · have he' : ¬ x = y := by simpa using he
              refine fR rfl ?_
              refine aL rfl rfl rfl rfl rfl ?_
              refine fM rfl ?_
              exact rWeak 0 rfl (ih2 () (by rw [hm]; simp [he'])) rfl rfl rfl
    · intro i x r _ h1 hi hdr hinv ih
      have hx := hel x (List.mem_of_getElem? h1)
      refine fR rfl ?_
      refine Run.condT rfl rfl (by simp; omega) ?_
      refine fR rfl ?_
      refine Mid.elemMap rfl rfl rfl h1 rfl rfl ?_
      refine fM rfl ?_
      refine Mid.call (tname_ok H x hx) rfl rfl rfl rfl ?_
      refine fM rfl ?_
      refine caG rfl rfl (fun hg => ⟨_, rfl, treserved_ok H x hx, rfl⟩) rfl rfl ?_
      refine fM rfl ?_
      refine Run.cond rfl rfl (fun hb => ?_) (fun hb => ?_)
      · unfold setL at hR
        rw [if_pos (by rw [hinv, List.any_cons, show (!nameF x || resF x) = true from hb]; rfl)] at hR
        subst hR
        refine fR rfl ?_
        refine Run.fin rfl (EndOk.go ?_); exact .tup2 (.nil rfl) (.t rfl)
      · refine fR rfl ?_
        refine aL rfl rfl rfl rfl rfl ?_
        refine fM rfl ?_
        exact rWeak 0 rfl (ih () (by rw [hinv, List.any_cons, show (!nameF x || resF x) = false from hb]; rfl)) rfl rfl rfl
  exact hR _ rfl
end Go.GB.C23


/-
  F23E: chapter 23's functions: arguments, rules.
-/
namespace Go.GB.C23
open Go.GB Go.GB.C11
set_option linter.unusedSimpArgs false
set_option linter.unusedVariables false
set_option maxRecDepth 100000
set_option maxHeartbeats 4000000
variable {P : Program}

def dV (d : Dir) : V := .agg [.t (.str d.name), .t (.lst (d.args.map Arg.enc))]
theorem argV_ok (H : Pr23 P) (f : FuncId) (d : Dir) (hd : d.args.length ≤ 140737488355328) (a : Str) (hf : f = 56 ∨ f = 57) : FnOk P f [dV d, .t (.str a)] ⟨[], 0⟩ { v := .tup [((argF a d.args).getD Val.zero).v, .t (.bool (argF a d.args).isSome)] } := by
  rcases hf with rfl | rfl
  · refine FnOk.run H.i56 H.mixed rfl rfl ?_
    refine fR rfl ?_
    refine lM rfl rfl rfl ?_
    refine fM rfl ?_
    refine rList d.args (fun i (_ : Unit) => { env := [(1, .t (.str a)), (4, .ptr 1 0), (9, .t (.lst (d.args.map Arg.enc))), (10, .t (.int .i64 d.args.length)), (11, .t (.int .i64 i))], s := ⟨[(1, .cells [.t (.int .i64 0), .t (.int .i64 0), .t (.str []), .nils, .nils])], 2⟩ }) (fun r i _ => argF a d.args = argF a r) 2 () rfl rfl rfl rfl rfl ?_ ?_
    · intro _ hinv
      refine fR rfl ?_
      refine Run.condF rfl rfl (by simp) ?_
      refine fR rfl ?_
      have e : argF a d.args = none := by rw [hinv]; rfl
      rw [e]
      refine Run.fin rfl (EndOk.go ?_); exact .tup2 (.agg (.cons (.t rfl) (.cons (.t rfl) (.cons (.t rfl) (.cons (.nil rfl) (.cons (.nil rfl) .nil)))))) (.t rfl)
    · intro i x r _ h1 hi hdr hinv ih
      refine fR rfl ?_
      refine Run.condT rfl rfl (by simp; omega) ?_
      refine fR rfl ?_
      refine Mid.elemMap rfl rfl rfl h1 rfl rfl ?_
      refine fM rfl ?_
      refine Run.cond rfl rfl (fun h => ?_) (fun h => ?_)
      · have h' : x.name = a := by simpa using h
        refine fR rfl ?_
        have e : argF a d.args = some x.val := by rw [hinv]; simp only [argF]; rw [if_pos h']
        rw [e]
        refine Run.fin rfl (EndOk.go ?_); exact .tup2 (.le (.same rfl)) (.t rfl)
      · have h' : ¬ x.name = a := by simpa using h
        refine fR rfl ?_
        refine aL rfl rfl rfl rfl rfl ?_
        refine fM rfl ?_
        exact rWeak 2 rfl (ih () (by rw [hinv]; simp only [argF]; rw [if_neg h'])) rfl rfl rfl
  · refine FnOk.run H.i57 H.mixed rfl rfl ?_
    refine fR rfl ?_
    refine rList d.args (fun i (_ : Unit) => { env := [(1, .t (.str a)), (2, .ptr 0 0), (4, .ptr 1 0), (6, .t (.int .i64 i))], s := ⟨[(0, .cells [.t (.str d.name), .t (.lst (d.args.map Arg.enc))]), (1, .cells [.t (.int .i64 0), .t (.int .i64 0), .t (.str []), .nils, .nils])], 2⟩ }) (fun r i _ => argF a d.args = argF a r) 2 () rfl rfl rfl rfl rfl ?_ ?_
    · intro _ hinv
      refine fR rfl ?_
      refine lM rfl rfl rfl ?_
      refine fM rfl ?_
      refine Run.condF rfl rfl (by simp) ?_
      refine fR rfl ?_
      have e : argF a d.args = none := by rw [hinv]; rfl
      rw [e]
      refine Run.fin rfl (EndOk.go ?_); exact .tup2 (.agg (.cons (.t rfl) (.cons (.t rfl) (.cons (.t rfl) (.cons (.nil rfl) (.cons (.nil rfl) .nil)))))) (.t rfl)
    · intro i x r _ h1 hi hdr hinv ih
      refine fR rfl ?_
      refine lM rfl rfl rfl ?_
      refine fM rfl ?_
      refine Run.condT rfl rfl (by simp; omega) ?_
      refine fR rfl ?_
      refine Mid.elemMap rfl rfl rfl h1 rfl rfl ?_
      refine fM rfl ?_
      refine Run.cond rfl rfl (fun h => ?_) (fun h => ?_)
      · have h' : x.name = a := by simpa using h
        refine fR rfl ?_
        refine Mid.elemMap rfl rfl rfl h1 rfl rfl ?_
        refine fM rfl ?_
        have e : argF a d.args = some x.val := by rw [hinv]; simp only [argF]; rw [if_pos h']
        rw [e]
        refine Run.fin rfl (EndOk.go ?_); exact .tup2 (.le (.same rfl)) (.t rfl)
      · have h' : ¬ x.name = a := by simpa using h
        refine fR rfl ?_
        refine aL rfl rfl rfl rfl rfl ?_
        refine fM rfl ?_
        exact rWeak 2 rfl (ih () (by rw [hinv]; simp only [argF]; rw [if_neg h'])) rfl rfl rfl
theorem hasD_ok (H : Pr23 P) (f : FuncId) (l : List Dir) (hl : l.length ≤ 140737488355328) (n : Str) (hf : f = 25 ∨ f = 19) : FnOk P f [.t (.lst (l.map Dir.enc)), .t (.str n)] ⟨[], 0⟩ { v := .t (.bool (hasD n l)) } := by
  rcases hf with rfl | rfl
  · refine FnOk.run H.i25 H.mixed rfl rfl ?_
    refine fR rfl ?_
    refine lM rfl rfl rfl ?_
    refine fM rfl ?_
    refine rList l (fun i (_ : Unit) => { env := [(1, .t (.str n)), (7, .t (.lst (l.map Dir.enc))), (8, .t (.int .i64 l.length)), (9, .t (.int .i64 i))], s := ⟨[], 0⟩ }) (fun r i _ => hasD n l = hasD n r) 0 () rfl rfl rfl rfl rfl ?_ ?_
    · intro _ hinv
      refine fR rfl ?_
      refine Run.condF rfl rfl (by simp) ?_
      refine fR rfl ?_
      refine Run.fin rfl (EndOk.go ?_); exact .t (by rw [hinv]; rfl)
    · intro i x r _ h1 hi hdr hinv ih
      refine fR rfl ?_
      refine Run.condT rfl rfl (by simp; omega) ?_
      refine fR rfl ?_
      refine Mid.elemMap rfl rfl rfl h1 rfl rfl ?_
      refine fM rfl ?_
      refine Run.cond rfl rfl (fun h => ?_) (fun h => ?_)
      · refine fR rfl ?_
        refine Run.fin rfl (EndOk.go ?_); exact .t (by rw [hinv]; unfold hasD; rw [List.any_cons, h]; rfl)
      · refine fR rfl ?_
        refine aL rfl rfl rfl rfl rfl ?_
        refine fM rfl ?_
        exact rWeak 0 rfl (ih () (by rw [hinv]; unfold hasD; rw [List.any_cons, h]; rfl)) rfl rfl rfl
  · refine FnOk.run H.i19 H.mixed rfl rfl ?_
    refine fR rfl ?_
    refine rList l (fun i (_ : Unit) => { env := [(0, .t (.lst (l.map Dir.enc))), (1, .t (.str n)), (5, .t (.int .i64 i))], s := ⟨[], 0⟩ }) (fun r i _ => hasD n l = hasD n r) 0 () rfl rfl rfl rfl rfl ?_ ?_
    · intro _ hinv
      refine fR rfl ?_
      refine lM rfl rfl rfl ?_
      refine fM rfl ?_
      refine Run.condF rfl rfl (by simp) ?_
      refine fR rfl ?_
      refine Run.fin rfl (EndOk.go ?_); exact .t (by rw [hinv]; rfl)
    · intro i x r _ h1 hi hdr hinv ih
      refine fR rfl ?_
      refine lM rfl rfl rfl ?_
      refine fM rfl ?_
      refine Run.condT rfl rfl (by simp; omega) ?_
      refine fR rfl ?_
      refine Mid.elemMap rfl rfl rfl h1 rfl rfl ?_
      refine fM rfl ?_
      refine Run.cond rfl rfl (fun h => ?_) (fun h => ?_)
      · refine fR rfl ?_
        refine Run.fin rfl (EndOk.go ?_); exact .t (by rw [hinv]; unfold hasD; rw [List.any_cons, h]; rfl)
      · refine fR rfl ?_
        refine aL rfl rfl rfl rfl rfl ?_
        refine fM rfl ?_
        exact rWeak 0 rfl (ih () (by rw [hinv]; unfold hasD; rw [List.any_cons, h]; rfl)) rfl rfl rfl

/- rules -/
def fnK : Nat → FuncId
  | 0 => 117
  | 1 => 118
  | 2 => 119
  | 3 => 120
  | _ => 121
def PRule.enc (p : PRule) : List T := [.str p.name, .bool p.may, .fn (fnK p.k)]
def Rule.v (r : Rule) : V := .agg [.t (.int .i64 r.places), .t (.bool r.again), .t (.lst (r.params.map PRule.enc))]
def Rule.zero : Rule := ⟨0, false, []⟩
/- values that fit -/
end Go.GB.C23


/-
  F23F: chapter 23's functions: the reference's arguments and places.
-/
namespace Go.GB.C23
open Go.GB Go.GB.C11
set_option linter.unusedSimpArgs false
set_option linter.unusedVariables false
set_option maxRecDepth 100000
set_option maxHeartbeats 4000000
variable {P : Program}

def kmay (n a : Str) : Bool := n ++ [46] ++ a == [99, 97, 99, 104, 101, 67, 111, 110, 116, 114, 111, 108, 46, 112, 114, 105, 118, 97, 116, 101] || n ++ [46] ++ a == [100, 101, 112, 114, 101, 99, 97, 116, 101, 100, 46, 114, 101, 97, 115, 111, 110]
theorem kind_ok (H : Pr23 P) (n a : Str) (hn : n.length ≤ 140737488355328) (ha : a.length ≤ 140737488355328) : ∃ b, FnOk P 94 [.t (.str n), .t (.str a)] ⟨[], 0⟩ { v := .tup [.t (.str (kstr n a)), .t (.bool b)] } := by
  have hR : ∀ R, kstr n a = R → ∃ b, FnOk P 94 [.t (.str n), .t (.str a)] ⟨[], 0⟩ { v := .tup [.t (.str R), .t (.bool b)] } := by
    intro R hR
    unfold kstr at hR
    refine ⟨kmay n a, ?_⟩
    refine FnOk.run H.i94 H.mixed rfl rfl ?_
    refine fR rfl ?_
    refine pu rfl ?_
    refine fM rfl ?_
    refine pu rfl ?_
    refine fM rfl ?_
    refine Run.cond rfl rfl (fun h0 => ?_) (fun h0 => ?_)
    · have h' : n ++ [46] ++ a = [107, 101, 121, 46, 102, 105, 101, 108, 100, 115] := by simpa only [beq_iff_eq] using h0
      rw [if_pos h'] at hR
      subst hR
      skip
      refine Run.condT rfl rfl h0 ?_
      refine fR rfl ?_
      refine Run.fin rfl (EndOk.go ?_); exact .tup2 (.t rfl) (.t (by unfold kmay; rw [h']; rfl))
    · have n0 : ¬ n ++ [46] ++ a = [107, 101, 121, 46, 102, 105, 101, 108, 100, 115] := by simpa only [beq_eq_false_iff_ne, ne_eq] using h0
      rw [if_neg n0] at hR
      refine fR rfl ?_
      refine Run.cond rfl rfl (fun h1 => ?_) (fun h1 => ?_)
      · have h' : n ++ [46] ++ a = [114, 101, 113, 117, 105, 114, 101, 115, 46, 102, 105, 101, 108, 100, 115] := by simpa only [beq_iff_eq] using h1
        rw [if_pos h'] at hR
        subst hR
        skip
        refine Run.condT rfl rfl h1 ?_
        refine fR rfl ?_
        refine Run.fin rfl (EndOk.go ?_); exact .tup2 (.t rfl) (.t (by unfold kmay; rw [h']; rfl))
      · have n1 : ¬ n ++ [46] ++ a = [114, 101, 113, 117, 105, 114, 101, 115, 46, 102, 105, 101, 108, 100, 115] := by simpa only [beq_eq_false_iff_ne, ne_eq] using h1
        rw [if_neg n1] at hR
        refine fR rfl ?_
        refine Run.cond rfl rfl (fun h2 => ?_) (fun h2 => ?_)
        · have h' : n ++ [46] ++ a = [112, 114, 111, 118, 105, 100, 101, 115, 46, 102, 105, 101, 108, 100, 115] := by simpa only [beq_iff_eq] using h2
          rw [if_pos h'] at hR
          subst hR
          refine fR rfl ?_
          refine Run.fin rfl (EndOk.go ?_); exact .tup2 (.t rfl) (.t (by unfold kmay; rw [h']; rfl))
        · have n2 : ¬ n ++ [46] ++ a = [112, 114, 111, 118, 105, 100, 101, 115, 46, 102, 105, 101, 108, 100, 115] := by simpa only [beq_eq_false_iff_ne, ne_eq] using h2
          rw [if_neg n2] at hR
          refine fR rfl ?_
          refine Run.cond rfl rfl (fun h3 => ?_) (fun h3 => ?_)
          · have h' : n ++ [46] ++ a = [116, 97, 103, 46, 110, 97, 109, 101] := by simpa only [beq_iff_eq] using h3
            rw [if_pos h'] at hR
            subst hR
            refine fR rfl ?_
            refine Run.fin rfl (EndOk.go ?_); exact .tup2 (.t rfl) (.t (by unfold kmay; rw [h']; rfl))
          · have n3 : ¬ n ++ [46] ++ a = [116, 97, 103, 46, 110, 97, 109, 101] := by simpa only [beq_eq_false_iff_ne, ne_eq] using h3
            rw [if_neg n3] at hR
            refine fR rfl ?_
            refine Run.cond rfl rfl (fun h4 => ?_) (fun h4 => ?_)
            · have h' : n ++ [46] ++ a = [115, 99, 111, 112, 101, 115, 46, 97, 108, 108] := by simpa only [beq_iff_eq] using h4
              rw [if_pos h'] at hR
              subst hR
              refine fR rfl ?_
              refine Run.fin rfl (EndOk.go ?_); exact .tup2 (.t rfl) (.t (by unfold kmay; rw [h']; rfl))
            · have n4 : ¬ n ++ [46] ++ a = [115, 99, 111, 112, 101, 115, 46, 97, 108, 108] := by simpa only [beq_eq_false_iff_ne, ne_eq] using h4
              rw [if_neg n4] at hR
              refine fR rfl ?_
              refine Run.cond rfl rfl (fun h5 => ?_) (fun h5 => ?_)
              · have h' : n ++ [46] ++ a = [99, 111, 115, 116, 46, 119, 101, 105, 103, 104, 116] := by simpa only [beq_iff_eq] using h5
                rw [if_pos h'] at hR
                subst hR
                skip
                refine Run.condT rfl rfl h5 ?_
                refine fR rfl ?_
                refine Run.fin rfl (EndOk.go ?_); exact .tup2 (.t rfl) (.t (by unfold kmay; rw [h']; rfl))
              · have n5 : ¬ n ++ [46] ++ a = [99, 111, 115, 116, 46, 119, 101, 105, 103, 104, 116] := by simpa only [beq_eq_false_iff_ne, ne_eq] using h5
                rw [if_neg n5] at hR
                refine fR rfl ?_
                refine Run.cond rfl rfl (fun h6 => ?_) (fun h6 => ?_)
                · have h' : n ++ [46] ++ a = [108, 105, 115, 116, 83, 105, 122, 101, 46, 97, 115, 115, 117, 109, 101, 100] := by simpa only [beq_iff_eq] using h6
                  rw [if_pos h'] at hR
                  subst hR
                  skip
                  refine Run.condT rfl rfl h6 ?_
                  refine fR rfl ?_
                  refine Run.fin rfl (EndOk.go ?_); exact .tup2 (.t rfl) (.t (by unfold kmay; rw [h']; rfl))
                · have n6 : ¬ n ++ [46] ++ a = [108, 105, 115, 116, 83, 105, 122, 101, 46, 97, 115, 115, 117, 109, 101, 100] := by simpa only [beq_eq_false_iff_ne, ne_eq] using h6
                  rw [if_neg n6] at hR
                  refine fR rfl ?_
                  refine Run.cond rfl rfl (fun h7 => ?_) (fun h7 => ?_)
                  · have h' : n ++ [46] ++ a = [99, 97, 99, 104, 101, 67, 111, 110, 116, 114, 111, 108, 46, 109, 97, 120, 65, 103, 101] := by simpa only [beq_iff_eq] using h7
                    rw [if_pos h'] at hR
                    subst hR
                    refine fR rfl ?_
                    refine Run.fin rfl (EndOk.go ?_); exact .tup2 (.t rfl) (.t (by unfold kmay; rw [h']; rfl))
                  · have n7 : ¬ n ++ [46] ++ a = [99, 97, 99, 104, 101, 67, 111, 110, 116, 114, 111, 108, 46, 109, 97, 120, 65, 103, 101] := by simpa only [beq_eq_false_iff_ne, ne_eq] using h7
                    rw [if_neg n7] at hR
                    refine fR rfl ?_
                    refine Run.cond rfl rfl (fun h8 => ?_) (fun h8 => ?_)
                    · have h' : n ++ [46] ++ a = [99, 97, 99, 104, 101, 67, 111, 110, 116, 114, 111, 108, 46, 112, 114, 105, 118, 97, 116, 101] := by simpa only [beq_iff_eq] using h8
                      rw [if_pos h'] at hR
                      subst hR
                      refine fR rfl ?_
                      refine Run.fin rfl (EndOk.go ?_); exact .tup2 (.t rfl) (.t (by unfold kmay; rw [h']; rfl))
                    · have n8 : ¬ n ++ [46] ++ a = [99, 97, 99, 104, 101, 67, 111, 110, 116, 114, 111, 108, 46, 112, 114, 105, 118, 97, 116, 101] := by simpa only [beq_eq_false_iff_ne, ne_eq] using h8
                      rw [if_neg n8] at hR
                      refine fR rfl ?_
                      refine Run.cond rfl rfl (fun h9 => ?_) (fun h9 => ?_)
                      · have h' : n ++ [46] ++ a = [100, 101, 112, 114, 101, 99, 97, 116, 101, 100, 46, 114, 101, 97, 115, 111, 110] := by simpa only [beq_iff_eq] using h9
                        rw [if_pos h'] at hR
                        subst hR
                        refine fR rfl ?_
                        refine Run.fin rfl (EndOk.go ?_); exact .tup2 (.t rfl) (.t (by unfold kmay; rw [h']; rfl))
                      · have n9 : ¬ n ++ [46] ++ a = [100, 101, 112, 114, 101, 99, 97, 116, 101, 100, 46, 114, 101, 97, 115, 111, 110] := by simpa only [beq_eq_false_iff_ne, ne_eq] using h9
                        rw [if_neg n9] at hR
                        refine fR rfl ?_
                        subst hR
                        have e : kmay n a = false := by
                          unfold kmay
                          rw [h8, h9]; rfl
                        rw [e]
                        refine Run.fin rfl (EndOk.go ?_); exact .tup2 (.t rfl) (.t rfl)
  exact hR _ rfl
theorem needed_ok (H : Pr23 P) (n : Str) : FnOk P 95 [.t (.str n)] ⟨[], 0⟩ { v := .t (.str (needF n)) } := by
  refine FnOk.run H.i95 H.mixed rfl rfl ?_
  refine fR rfl ?_
  refine Run.cond rfl rfl (fun h0 => ?_) (fun h0 => ?_)
  · have h' : n = ([107, 101, 121] : Str) := by simpa using h0
    subst h'
    skip
    refine Run.condT rfl rfl rfl ?_
    refine fR rfl ?_
    refine Run.fin rfl (EndOk.go ?_); exact .t rfl
  · have n0 : ¬ n = ([107, 101, 121] : Str) := by simpa using h0
    refine fR rfl ?_
    refine Run.cond rfl rfl (fun h1 => ?_) (fun h1 => ?_)
    · have h' : n = ([114, 101, 113, 117, 105, 114, 101, 115] : Str) := by simpa using h1
      subst h'
      skip
      refine Run.condT rfl rfl rfl ?_
      refine fR rfl ?_
      refine Run.fin rfl (EndOk.go ?_); exact .t rfl
    · have n1 : ¬ n = ([114, 101, 113, 117, 105, 114, 101, 115] : Str) := by simpa using h1
      refine fR rfl ?_
      refine Run.cond rfl rfl (fun h2 => ?_) (fun h2 => ?_)
      · have h' : n = ([112, 114, 111, 118, 105, 100, 101, 115] : Str) := by simpa using h2
        subst h'
        refine fR rfl ?_
        refine Run.fin rfl (EndOk.go ?_); exact .t rfl
      · have n2 : ¬ n = ([112, 114, 111, 118, 105, 100, 101, 115] : Str) := by simpa using h2
        refine fR rfl ?_
        refine Run.cond rfl rfl (fun h3 => ?_) (fun h3 => ?_)
        · have h' : n = ([116, 97, 103] : Str) := by simpa using h3
          subst h'
          refine fR rfl ?_
          refine Run.fin rfl (EndOk.go ?_); exact .t rfl
        · have n3 : ¬ n = ([116, 97, 103] : Str) := by simpa using h3
          refine fR rfl ?_
          refine Run.cond rfl rfl (fun h4 => ?_) (fun h4 => ?_)
          · have h' : n = ([115, 99, 111, 112, 101, 115] : Str) := by simpa using h4
            subst h'
            refine fR rfl ?_
            refine Run.fin rfl (EndOk.go ?_); exact .t rfl
          · have n4 : ¬ n = ([115, 99, 111, 112, 101, 115] : Str) := by simpa using h4
            refine fR rfl ?_
            refine Run.cond rfl rfl (fun h5 => ?_) (fun h5 => ?_)
            · have h' : n = ([99, 111, 115, 116] : Str) := by simpa using h5
              subst h'
              refine fR rfl ?_
              refine Run.fin rfl (EndOk.go ?_); exact .t rfl
            · have n5 : ¬ n = ([99, 111, 115, 116] : Str) := by simpa using h5
              refine fR rfl ?_
              refine Run.cond rfl rfl (fun h6 => ?_) (fun h6 => ?_)
              · have h' : n = ([108, 105, 115, 116, 83, 105, 122, 101] : Str) := by simpa using h6
                subst h'
                refine fR rfl ?_
                refine Run.fin rfl (EndOk.go ?_); exact .t rfl
              · have n6 : ¬ n = ([108, 105, 115, 116, 83, 105, 122, 101] : Str) := by simpa using h6
                refine fR rfl ?_
                refine Run.cond rfl rfl (fun h7 => ?_) (fun h7 => ?_)
                · have h' : n = ([99, 97, 99, 104, 101, 67, 111, 110, 116, 114, 111, 108] : Str) := by simpa using h7
                  subst h'
                  refine fR rfl ?_
                  refine Run.fin rfl (EndOk.go ?_); exact .t rfl
                · have n7 : ¬ n = ([99, 97, 99, 104, 101, 67, 111, 110, 116, 114, 111, 108] : Str) := by simpa using h7
                  refine fR rfl ?_
                  have e : needF n = [] := by
                    unfold needF
                    rw [if_neg (fun h => by rcases h with h | h | h <;> first | exact n0 h | exact n1 h | exact n2 h), if_neg n3, if_neg n4, if_neg n5, if_neg n6, if_neg n7]
                  rw [e]
                  refine Run.fin rfl (EndOk.go ?_); exact .t rfl
theorem may_ok (H : Pr23 P) (n : Str) (p : Int) : FnOk P 75 [.t (.str n), .t (.int .i64 p)] ⟨[], 0⟩ { v := .t (.bool (mayF n p)) } := by
  refine FnOk.run H.i75 H.mixed rfl rfl ?_
  refine fR rfl ?_
  refine Run.cond rfl rfl (fun h0 => ?_) (fun h0 => ?_)
  · have h' : n = ([107, 101, 121] : Str) := by simpa using h0
    subst h'
    refine fR rfl ?_
    refine Run.fin rfl (EndOk.go ?_); exact .t rfl
  · have n0 : ¬ n = ([107, 101, 121] : Str) := by simpa using h0
    refine fR rfl ?_
    refine Run.cond rfl rfl (fun h1 => ?_) (fun h1 => ?_)
    · have h' : n = ([101, 120, 116, 101, 114, 110, 97, 108] : Str) := by simpa using h1
      subst h'
      skip
      refine Run.condT rfl rfl rfl ?_
      refine fR rfl ?_
      refine Run.fin rfl (EndOk.go ?_); exact .t rfl
    · have n1 : ¬ n = ([101, 120, 116, 101, 114, 110, 97, 108] : Str) := by simpa using h1
      refine fR rfl ?_
      refine Run.cond rfl rfl (fun h2 => ?_) (fun h2 => ?_)
      · have h' : n = ([115, 104, 97, 114, 101, 97, 98, 108, 101] : Str) := by simpa using h2
        subst h'
        skip
        refine Run.condT rfl rfl rfl ?_
        refine fR rfl ?_
        refine Run.fin rfl (EndOk.go ?_); exact .t rfl
      · have n2 : ¬ n = ([115, 104, 97, 114, 101, 97, 98, 108, 101] : Str) := by simpa using h2
        refine fR rfl ?_
        refine Run.cond rfl rfl (fun h3 => ?_) (fun h3 => ?_)
        · have h' : n = ([105, 110, 97, 99, 99, 101, 115, 115, 105, 98, 108, 101] : Str) := by simpa using h3
          subst h'
          skip
          refine Run.condT rfl rfl rfl ?_
          refine fR rfl ?_
          refine Run.fin rfl (EndOk.go ?_); exact .t rfl
        · have n3 : ¬ n = ([105, 110, 97, 99, 99, 101, 115, 115, 105, 98, 108, 101] : Str) := by simpa using h3
          refine fR rfl ?_
          refine Run.cond rfl rfl (fun h4 => ?_) (fun h4 => ?_)
          · have h' : n = ([114, 101, 113, 117, 105, 114, 101, 115] : Str) := by simpa using h4
            subst h'
            skip
            refine Run.condT rfl rfl rfl ?_
            refine fR rfl ?_
            refine Run.fin rfl (EndOk.go ?_); exact .t rfl
          · have n4 : ¬ n = ([114, 101, 113, 117, 105, 114, 101, 115] : Str) := by simpa using h4
            refine fR rfl ?_
            refine Run.cond rfl rfl (fun h5 => ?_) (fun h5 => ?_)
            · have h' : n = ([112, 114, 111, 118, 105, 100, 101, 115] : Str) := by simpa using h5
              subst h'
              refine fR rfl ?_
              refine Run.fin rfl (EndOk.go ?_); exact .t rfl
            · have n5 : ¬ n = ([112, 114, 111, 118, 105, 100, 101, 115] : Str) := by simpa using h5
              refine fR rfl ?_
              refine Run.cond rfl rfl (fun h6 => ?_) (fun h6 => ?_)
              · have h' : n = ([116, 97, 103] : Str) := by simpa using h6
                subst h'
                refine fR rfl ?_
                refine Run.fin rfl (EndOk.go ?_); exact .t rfl
              · have n6 : ¬ n = ([116, 97, 103] : Str) := by simpa using h6
                refine fR rfl ?_
                refine Run.cond rfl rfl (fun h7 => ?_) (fun h7 => ?_)
                · have h' : n = ([97, 117, 116, 104, 101, 110, 116, 105, 99, 97, 116, 101, 100] : Str) := by simpa using h7
                  subst h'
                  skip
                  refine Run.condT rfl rfl rfl ?_
                  refine fR rfl ?_
                  refine Run.fin rfl (EndOk.go ?_); exact .t rfl
                · have n7 : ¬ n = ([97, 117, 116, 104, 101, 110, 116, 105, 99, 97, 116, 101, 100] : Str) := by simpa using h7
                  refine fR rfl ?_
                  refine Run.cond rfl rfl (fun h8 => ?_) (fun h8 => ?_)
                  · have h' : n = ([115, 99, 111, 112, 101, 115] : Str) := by simpa using h8
                    subst h'
                    skip
                    refine Run.condT rfl rfl rfl ?_
                    refine fR rfl ?_
                    refine Run.fin rfl (EndOk.go ?_); exact .t rfl
                  · have n8 : ¬ n = ([115, 99, 111, 112, 101, 115] : Str) := by simpa using h8
                    refine fR rfl ?_
                    refine Run.cond rfl rfl (fun h9 => ?_) (fun h9 => ?_)
                    · have h' : n = ([99, 97, 99, 104, 101, 67, 111, 110, 116, 114, 111, 108] : Str) := by simpa using h9
                      subst h'
                      refine fR rfl ?_
                      refine Run.fin rfl (EndOk.go ?_); exact .t rfl
                    · have n9 : ¬ n = ([99, 97, 99, 104, 101, 67, 111, 110, 116, 114, 111, 108] : Str) := by simpa using h9
                      refine fR rfl ?_
                      refine Run.cond rfl rfl (fun h10 => ?_) (fun h10 => ?_)
                      · have h' : n = ([99, 111, 115, 116] : Str) := by simpa using h10
                        subst h'
                        skip
                        refine Run.condT rfl rfl rfl ?_
                        refine fR rfl ?_
                        refine Run.fin rfl (EndOk.go ?_); exact .t rfl
                      · have n10 : ¬ n = ([99, 111, 115, 116] : Str) := by simpa using h10
                        refine fR rfl ?_
                        refine Run.cond rfl rfl (fun h11 => ?_) (fun h11 => ?_)
                        · have h' : n = ([108, 105, 115, 116, 83, 105, 122, 101] : Str) := by simpa using h11
                          subst h'
                          refine fR rfl ?_
                          refine Run.fin rfl (EndOk.go ?_); exact .t rfl
                        · have n11 : ¬ n = ([108, 105, 115, 116, 83, 105, 122, 101] : Str) := by simpa using h11
                          refine fR rfl ?_
                          refine Run.cond rfl rfl (fun h12 => ?_) (fun h12 => ?_)
                          · have h' : n = ([100, 101, 112, 114, 101, 99, 97, 116, 101, 100] : Str) := by simpa using h12
                            subst h'
                            refine fR rfl ?_
                            refine Run.fin rfl (EndOk.go ?_); exact .t rfl
                          · have n12 : ¬ n = ([100, 101, 112, 114, 101, 99, 97, 116, 101, 100] : Str) := by simpa using h12
                            refine fR rfl ?_
                            have e : mayF n p = false := by
                              unfold mayF
                              simp only [n0, n1, n2, n3, n4, n5, n6, n7, n8, n9, n10, n11, n12, if_false, or_false]
                            rw [e]
                            refine Run.fin rfl (EndOk.go ?_); exact .t rfl
def glue (p : Str) : List Str → List Str
  | [] => [p]
  | h :: t => (p ++ h) :: t
theorem glue_nil {l : List Str} (h : l ≠ []) : glue [] l = l := by
  cases l with
  | nil => exact absurd rfl h
  | cons a r => rfl
structure SrOk (s : Str) (out : List Str) (fr i : Nat) : Prop where
  le : i ≤ s.length + 1
  fl : fr ≤ i
  ol : out.length ≤ i
  go : i ≤ s.length → splS s = out ++ glue ((s.take i).drop fr) (splS (s.drop i))
  en : i = s.length + 1 → splS s = out
theorem rSplit_ok (H : Pr23 P) (s : Str) (hs : s.length ≤ 1099511627776) : FnOk P 49 [.t (.str s)] ⟨[], 0⟩ { v := .t (.lst ((splS s).map sE)) } := by
  refine FnOk.run H.i49 H.mixed rfl rfl ?_
  refine fR rfl ?_
  refine rLoopM (β := List Str × Nat × Nat) (fun b => { env := [(0, .t (.str s)), (3, .own 0 1 (b.1.map sE)), (4, .t (.int .i64 b.2.1)), (5, .t (.int .i64 b.2.2))], s := ⟨[(0, .arr b.1.length)], 1⟩ })
    (fun b => SrOk s b.1 b.2.1 b.2.2) (fun b => s.length + 1 - b.2.2) 0 ([], 0, 0) rfl ⟨by simp, by simp, by simp, fun _ => by simp only [List.take_zero, List.drop_nil, List.drop_zero, List.nil_append]; rw [glue_nil (splS_ne s)], fun h => by simp only at h; omega⟩ rfl rfl rfl ?_
  rintro ⟨out, fr, i⟩ hinv ih
  have h1 := hinv.le
  have h2 := hinv.fl
  have h3 := hinv.go
  have h4 := hinv.en
  have h5 := hinv.ol
  simp only at h1 h2 h3 h4 h5
  dsimp only at ih ⊢
  by_cases hi : i ≤ s.length
  · by_cases he : i = s.length
    · subst he
      have hg := h3 hi
      rw [List.drop_length, splS, glue, List.append_nil] at hg
      refine fR rfl ?_
      refine Run.condT rfl rfl (by simp) ?_
      refine fR rfl ?_
      simp only [beq_self_eq_true]
      have h0 : s[((s.length : Nat) : Int).toNat]? = none := by simp
      refine Mid.grdF rfl rfl (by change (match s[((s.length : Nat) : Int).toNat]? with | some b => some _ | none => none) = none; rw [h0]) rfl rfl ?_
      refine Mid.grdF rfl rfl rfl rfl rfl ?_
      refine fM rfl ?_
      refine Run.condT rfl rfl rfl ?_
      refine fR rfl ?_
      refine sSub rfl rfl rfl rfl ?_
      refine fM rfl ?_
      refine apM sE out [(s.take s.length).drop fr] rfl rfl rfl rfl rfl ?_ (h1 := by first | omega | (simp; omega) | (simp; done)) (h2 := by first | omega | (simp; omega) | (simp; done))
      refine fM rfl ?_
      refine aL rfl rfl rfl rfl rfl ?_
      refine fM rfl ?_
      refine aL rfl rfl rfl rfl rfl ?_
      refine fM rfl ?_
      exact rWeak 1 rfl (ih (out ++ [(s.take s.length).drop fr], s.length + 1, s.length + 1) (by simp only; omega) ⟨by simp only; omega, by simp only; omega, by simp; omega, fun h => by simp only at h; omega, fun _ => hg⟩) rfl rfl rfl
    · have hi2 : i < s.length := by omega
      refine fR rfl ?_
      refine Run.condT rfl rfl (by simp; omega) ?_
      refine fR rfl ?_
      obtain ⟨c, hc⟩ : ∃ c, s[i]? = some c := ⟨s[i], List.getElem?_eq_getElem hi2⟩
      have hdr : s.drop i = c :: s.drop (i + 1) := by
        rw [List.drop_eq_getElem_cons hi2]
        rw [List.getElem?_eq_getElem hi2] at hc
        rw [Option.some.inj hc]
      have hg := h3 hi
      rw [hdr, splS] at hg
      have hb : ((i : Int) == (s.length : Int)) = false := by simp; omega
      refine byG rfl rfl rfl hc rfl ?_
      refine fM rfl ?_
      rw [hb]
      refine Run.cond rfl rfl (fun hcc => ?_) (fun hcc => ?_)
      · have hc' : c = 32 := by
          have : (c.toNat : Int) = 32 := by simpa using hcc
          exact UInt8.toNat_inj.1 (by have : c.toNat = 32 := by omega
                                      exact this)
        subst hc'
        rw [if_pos rfl, glue, List.append_nil] at hg
        refine fR rfl ?_
        refine sSub rfl rfl rfl rfl ?_
        refine fM rfl ?_
        refine apM sE out [(s.take i).drop fr] rfl rfl rfl rfl rfl ?_ (h1 := by first | omega | (simp; omega) | (simp; done)) (h2 := by first | omega | (simp; omega) | (simp; done))
        refine fM rfl ?_
        refine aL rfl rfl rfl rfl rfl ?_
        refine fM rfl ?_
        refine aL rfl rfl rfl rfl rfl ?_
        refine fM rfl ?_
        exact rWeak 1 rfl (ih (out ++ [(s.take i).drop fr], i + 1, i + 1) (by simp only; omega) ⟨by simp only; omega, by simp only; omega, by simp; omega, fun _ => by
          simp only
          rw [show (s.take (i + 1)).drop (i + 1) = [] from List.drop_of_length_le (by rw [List.length_take]; omega), glue_nil (splS_ne _), List.append_assoc]; exact hg, fun h => by simp only at h; omega⟩) rfl rfl rfl
      · have hc' : ¬ c = 32 := by
          intro e; subst e; simp at hcc
        rw [if_neg hc'] at hg
        refine fR rfl ?_
        refine aL rfl rfl rfl rfl rfl ?_
        refine fM rfl ?_
        exact rWeak 1 rfl (ih (out, fr, i + 1) (by simp only; omega) ⟨by simp only; omega, by simp only; omega, by simp only; omega, fun _ => by
          simp only
          rw [hg]
          have ht : (s.take (i + 1)).drop fr = (s.take i).drop fr ++ [c] := by
            rw [List.take_add_one, hc, Option.toList_some, List.drop_append_of_le_length (by rw [List.length_take]; omega)]
          rw [ht]
          have hne := splS_ne (s.drop (i + 1))
          cases hss : splS (s.drop (i + 1)) with
          | nil => exact absurd hss hne
          | cons h t => simp [glue], fun h => by simp only at h; omega⟩) rfl rfl rfl
  · have hi' : i = s.length + 1 := by omega
    rw [h4 hi']
    refine fR rfl ?_
    refine Run.condF rfl rfl (by simp; omega) ?_
    refine fR rfl ?_
    refine Run.fin rfl (EndOk.go ?_); exact .own rfl
end Go.GB.C23


/-
  F23G: chapter 23's functions: the reference's sets, values that fit, arguments.
-/
namespace Go.GB.C23
open Go.GB Go.GB.C11
set_option linter.unusedSimpArgs false
set_option linter.unusedVariables false
set_option maxRecDepth 100000
set_option maxHeartbeats 4000000
variable {P : Program}

theorem rSet_ok (H : Pr23 P) (s : Str) (hs : s.length ≤ 1099511627776) : FnOk P 14 [.t (.str s)] ⟨[], 0⟩ { v := .tup [.t (.lst ((setF s).1.map sE)), .t (.int .i64 (setF s).2)] } := by
  have hsp := rSplit_ok H s hs
  have hll := splS_len s
  have hcl : s.count 32 ≤ s.length := List.count_le_length
  have hel : ∀ x, x ∈ splS s → x.length ≤ 140737488355328 := fun x hx => Nat.le_trans (splS_mem hx) (by omega)
  have hR : ∀ R, setF s = R → FnOk P 14 [.t (.str s)] ⟨[], 0⟩ { v := .tup [.t (.lst (R.1.map sE)), .t (.int .i64 R.2)] } := by
    intro R hR
    unfold setF at hR
    generalize splS s = l at hsp hll hel hR
    refine FnOk.run H.i14 H.mixed rfl rfl ?_
    refine fR rfl ?_
    refine Mid.call (hsp) rfl rfl rfl rfl ?_
    refine fM rfl ?_
    refine rList l (fun i (_ : Unit) => { env := [(4, .t (.lst (l.map sE))), (5, .t (.int .i64 i))], s := ⟨[], 0⟩ }) (fun r i _ => (l.any fun x => !nameF x || resF x) = r.any fun x => !nameF x || resF x) 0 () rfl rfl rfl rfl rfl ?_ ?_
    · intro _ hinv
      have hb : (l.any fun x => !nameF x || resF x) = false := by rw [hinv]; rfl
      unfold setL at hR
      rw [if_neg (by rw [hb]; simp)] at hR
      refine fR rfl ?_
      refine lM rfl rfl rfl ?_
      refine fM rfl ?_
      refine Run.condF rfl rfl (by simp) ?_
      refine fR rfl ?_
      refine lM rfl rfl rfl ?_
      refine fM rfl ?_
      refine Run.cond rfl rfl (fun h4 => ?_) (fun h4 => ?_)
      · have h4' : l.length > 4 := by simp at h4; omega
        rw [if_pos h4'] at hR
        subst hR
        refine fR rfl ?_
        refine Run.fin rfl (EndOk.go ?_); exact .tup2 (.nil rfl) (.t rfl)
      · have h4' : ¬ l.length > 4 := by simp at h4; omega
        rw [if_neg h4'] at hR
        refine fR rfl ?_
        refine rList l (fun i (_ : Unit) => { env := [(4, .t (.lst (l.map sE))), (6, .t (.int .i64 i))], s := ⟨[], 0⟩ }) (fun r i _ => dupS [] l = dupS (l.take i) r) 0 () rfl rfl rfl rfl rfl ?_ ?_
        · intro _ hd
          rw [if_neg (by rw [hd]; simp [dupS])] at hR
          subst hR
          refine fR rfl ?_
          refine lM rfl rfl rfl ?_
          refine fM rfl ?_
          refine Run.condF rfl rfl (by simp) ?_
          refine fR rfl ?_
          refine Run.fin rfl (EndOk.go ?_); exact .tup2 (.t rfl) (.t rfl)
        · intro i x r _ h1 hi hdr hd ih
          have htk : l.take i ++ [x] = l.take (i + 1) := by rw [List.take_add_one, h1]; rfl
          refine fR rfl ?_
          refine lM rfl rfl rfl ?_
          refine fM rfl ?_
          refine Run.condT rfl rfl (by simp; omega) ?_
          refine fR rfl ?_
          refine rList (l.take i) (fun k (_ : Unit) => { env := [(4, .t (.lst (l.map sE))), (6, .t (.int .i64 i)), (7, .t (.int .i64 k))], s := ⟨[], 0⟩ }) (fun r' k _ => decide (x ∈ l.take i) = decide (x ∈ r')) 0 () rfl rfl rfl rfl rfl ?_ ?_
          · intro _ hm
            have hm' : ¬ x ∈ l.take i := by simpa using hm
            refine fR rfl ?_
            refine Run.condF rfl rfl (by simp; omega) ?_
            refine fR rfl ?_
            refine aL rfl rfl rfl rfl rfl ?_
            refine fM rfl ?_
            exact rWeak 0 rfl (ih () (by rw [hd, dupS, ← htk]; simp [hm'])) rfl rfl rfl
          · intro k y r' _ g1 gi gd hm ih2
            have gi' : k < i := by rw [List.length_take] at gi; omega
            have g2 : l[k]? = some y := by rw [List.getElem?_take, if_pos gi'] at g1; exact g1
            refine fR rfl ?_
            refine Run.condT rfl rfl (by simp; omega) ?_
            refine fR rfl ?_
            refine Mid.elemMap rfl rfl rfl h1 rfl rfl ?_
            refine fM rfl ?_
            refine Mid.elemMap rfl rfl rfl g2 rfl rfl ?_
            refine fM rfl ?_
            refine Run.cond rfl rfl (fun he => ?_) (fun he => ?_)
            · have he' : x = y := by simpa using he
              have hmem : x ∈ l.take i := by
                have := hm.trans (decide_eq_true (by rw [he']; exact List.mem_cons_self ..))
                exact of_decide_eq_true this
              rw [if_pos (by rw [hd, dupS, decide_eq_true hmem]; rfl)] at hR
              subst hR
              refine fR rfl ?_
              refine Run.fin rfl (EndOk.go ?_); exact .tup2 (.nil rfl) (.t rfl)
            · have he' : ¬ x = y := by simpa using he
              refine fR rfl ?_
              refine aL rfl rfl rfl rfl rfl ?_
              refine fM rfl ?_
              exact rWeak 0 rfl (ih2 () (by rw [hm]; simp [he'])) rfl rfl rfl
    · intro i x r _ h1 hi hdr hinv ih
      have hx := hel x (List.mem_of_getElem? h1)
      refine fR rfl ?_
      refine lM rfl rfl rfl ?_
      refine fM rfl ?_
      refine Run.condT rfl rfl (by simp; omega) ?_
      refine fR rfl ?_
      refine Mid.elemMap rfl rfl rfl h1 rfl rfl ?_
      refine fM rfl ?_
      refine Mid.call (name_ok H.toPr x hx) rfl rfl rfl rfl ?_
      refine fM rfl ?_
      refine elG rfl rfl rfl rfl h1 rfl rfl ?_
      refine fM rfl ?_
      refine caG rfl rfl (fun hg => ⟨_, rfl, reserved_ok H.toPr x hx, rfl⟩) rfl rfl ?_
      refine fM rfl ?_
      refine Run.cond rfl rfl (fun hb => ?_) (fun hb => ?_)
      · unfold setL at hR
        rw [if_pos (by rw [hinv, List.any_cons, show (!nameF x || resF x) = true from hb]; rfl)] at hR
        subst hR
        refine fR rfl ?_
        refine Run.fin rfl (EndOk.go ?_); exact .tup2 (.nil rfl) (.t rfl)
      · refine fR rfl ?_
        refine aL rfl rfl rfl rfl rfl ?_
        refine fM rfl ?_
        exact rWeak 0 rfl (ih () (by rw [hinv, List.any_cons, show (!nameF x || resF x) = false from hb]; rfl)) rfl rfl rfl
  exact hR _ rfl
theorem rFits_ok (H : Pr23 P) (v : Val) (hv : v.Ok) (ht : v.text.length ≤ 1048576) (t : Str) : FnOk P 96 [v.v, .t (.str t)] ⟨[], 0⟩ { v := .t (.bool (fitsS v t)) } := by
  have hil := hv.il
  refine FnOk.run H.i96 H.mixed rfl rfl ?_
  refine fR rfl ?_
  refine Run.cond rfl rfl (fun h1 => ?_) (fun h1 => ?_)
  · have h1' : t = ([115, 101, 116] : Str) := by simpa only [beq_iff_eq] using h1
    refine fR rfl ?_
    refine Mid.call (rSet_ok H v.text (by omega)) rfl rfl rfl rfl ?_
    refine fM rfl ?_
    refine Run.fin rfl (EndOk.go ?_); exact .t (by unfold fitsS; rw [if_pos h1'])
  · have h1' : ¬ t = ([115, 101, 116] : Str) := by simpa only [beq_eq_false_iff_ne, ne_eq] using h1
    refine fR rfl ?_
    refine Run.cond rfl rfl (fun h2 => ?_) (fun h2 => ?_)
    · have h2' : t = ([116, 101, 120, 116] : Str) := by simpa only [beq_iff_eq] using h2
      refine fR rfl ?_
      refine Run.fin rfl (EndOk.go ?_); exact .t (by unfold fitsS; rw [if_neg h1', if_pos h2'])
    · have h2' : ¬ t = ([116, 101, 120, 116] : Str) := by simpa only [beq_eq_false_iff_ne, ne_eq] using h2
      refine fR rfl ?_
      refine Run.cond rfl rfl (fun h3 => ?_) (fun h3 => ?_)
      · have h3' : t = ([116, 114, 117, 116, 104] : Str) := by simpa only [beq_iff_eq] using h3
        refine fR rfl ?_
        refine Run.fin rfl (EndOk.go ?_); exact .t (by unfold fitsS; rw [if_neg h1', if_neg h2', if_pos h3'])
      · have h3' : ¬ t = ([116, 114, 117, 116, 104] : Str) := by simpa only [beq_eq_false_iff_ne, ne_eq] using h3
        refine fR rfl ?_
        refine Run.cond rfl rfl (fun h4 => ?_) (fun h4 => ?_)
        · have h4' : t = ([110, 117, 109, 98, 101, 114] : Str) := by simpa only [beq_iff_eq] using h4
          refine fR rfl ?_
          refine Run.fin rfl (EndOk.go ?_); exact .t (by unfold fitsS; rw [if_neg h1', if_neg h2', if_neg h3', if_pos h4'])
        · have h4' : ¬ t = ([110, 117, 109, 98, 101, 114] : Str) := by simpa only [beq_eq_false_iff_ne, ne_eq] using h4
          have e : fitsS v t = ((v.items.all fun x => x.kind == 3) && v.kind == 5) := by unfold fitsS; rw [if_neg h1', if_neg h2', if_neg h3', if_neg h4']
          refine fR rfl ?_
          refine rList v.items (fun i (_ : Unit) => { env := [(2, .ptr 0 0), (7, .t (.int .i64 i))], s := ⟨[(0, .cells [.t (.int .i64 v.kind), .t (.int .i64 v.int), .t (.str v.text), .t (.lst (v.items.map Val.enc)), .t (.lst (v.keys.map sE))])], 1⟩ }) (fun r i _ => (v.items.all fun x => x.kind == 3) = r.all fun x => x.kind == 3) 1 () rfl rfl rfl rfl rfl ?_ ?_
          · intro _ hinv
            refine fR rfl ?_
            refine lM rfl rfl rfl ?_
            refine fM rfl ?_
            refine Run.condF rfl rfl (by simp) ?_
            refine fR rfl ?_
            refine Run.fin rfl (EndOk.go ?_); exact .t (by rw [e, hinv]; rfl)
          · intro i x r _ g1 hi hdr hinv ih
            refine fR rfl ?_
            refine lM rfl rfl rfl ?_
            refine fM rfl ?_
            refine Run.condT rfl rfl (by simp; omega) ?_
            refine fR rfl ?_
            refine Mid.elemMapC ((Val.enc_eq x)) rfl rfl rfl g1 rfl rfl ?_
            refine fM rfl ?_
            refine Run.cond rfl rfl (fun hc => ?_) (fun hc => ?_)
            · have hc' : (x.kind == 3) = false := by simpa using hc
              refine fR rfl ?_
              refine Run.fin rfl (EndOk.go ?_); exact .t (by rw [e, hinv, List.all_cons, hc']; rfl)
            · have hc' : (x.kind == 3) = true := by simpa using hc
              refine fR rfl ?_
              refine aL rfl rfl rfl rfl rfl ?_
              refine fM rfl ?_
              exact rWeak 1 rfl (ih () (by rw [hinv, List.all_cons, hc']; rfl)) rfl rfl rfl
/-- directives whose texts are not long -/
structure DOk (d : Dir) : Prop where
  l : d.args.length ≤ 140737488355328
  nm : d.name.length ≤ 140737488355328
  an : ∀ a, a ∈ d.args → a.name.length ≤ 140737488355328 ∧ a.val.Ok ∧ a.val.text.length ≤ 1048576
theorem args_ok (H : Pr23 P) (d : Dir) (hd : DOk d) : FnOk P 74 [dV d] ⟨[], 0⟩ { v := .t (.int .i64 (argsR d.name d.args)) } := by
  have hl := hd.l
  have hnm := hd.nm
  have tail : badR d.name [] d.args = false → (needF d.name != [] && !(argF (needF d.name) d.args).isSome) = false → Run P n74 0 (EndOk ⟨[], 0⟩ { v := .t (.int .i64 (argsR d.name d.args)) } r74 .ret) (advK 200 [It.c c74_11]) { env := [(1, .ptr 0 0)], s := ⟨[(0, .cells [.t (.str d.name), .t (.lst (d.args.map Arg.enc))])], 1⟩ } := by
    intro hb1 hb2
    have e : argsR d.name d.args = if unfitR d.name d.args = true then 23 else 0 := by unfold argsR; rw [if_neg (by rw [hb1]; simp), if_neg (by rw [hb2]; simp)]
    rw [e]
    refine fR rfl ?_
    refine rList d.args (fun i (_ : Unit) => { env := [(1, .ptr 0 0), (9, .t (.int .i64 i))], s := ⟨[(0, .cells [.t (.str d.name), .t (.lst (d.args.map Arg.enc))])], 1⟩ }) (fun r i _ => unfitR d.name d.args = unfitR d.name r) 1 () rfl rfl rfl rfl rfl ?_ ?_
    · intro _ hinv
      refine fR rfl ?_
      refine lM rfl rfl rfl ?_
      refine fM rfl ?_
      refine Run.condF rfl rfl (by simp) ?_
      refine fR rfl ?_
      rw [if_neg (by rw [hinv]; simp [unfitR])]
      refine Run.fin rfl (EndOk.go ?_); exact .t rfl
    · intro i x r _ g1 hi hdr hinv ih
      have hx := hd.an x (List.mem_of_getElem? g1)
      obtain ⟨b, hk⟩ := kind_ok H d.name x.name hnm hx.1
      refine fR rfl ?_
      refine lM rfl rfl rfl ?_
      refine fM rfl ?_
      refine Run.condT rfl rfl (by simp; omega) ?_
      refine fR rfl ?_
      refine Mid.elemMap rfl rfl rfl g1 rfl rfl ?_
      refine fM rfl ?_
      refine Mid.call (hk) rfl rfl rfl rfl ?_
      refine fM rfl ?_
      refine Mid.elemMap rfl rfl rfl g1 rfl rfl ?_
      refine fM rfl ?_
      refine Mid.call (rFits_ok H x.val hx.2.1 hx.2.2 (kstr d.name x.name)) rfl rfl rfl rfl ?_
      refine fM rfl ?_
      refine Run.cond rfl rfl (fun hc => ?_) (fun hc => ?_)
      · refine fR rfl ?_
        rw [if_pos (by rw [hinv]; unfold unfitR; rw [List.any_cons, hc]; rfl)]
        refine Run.fin rfl (EndOk.go ?_); exact .t rfl
      · refine fR rfl ?_
        refine aL rfl rfl rfl rfl rfl ?_
        refine fM rfl ?_
        exact rWeak 1 rfl (ih () (by rw [hinv]; unfold unfitR; rw [List.any_cons, hc]; rfl)) rfl rfl rfl
  refine FnOk.run H.i74 H.mixed rfl rfl ?_
  refine fR rfl ?_
  refine rList d.args (fun i (_ : Unit) => { env := [(1, .ptr 0 0), (3, .t (.int .i64 i))], s := ⟨[(0, .cells [.t (.str d.name), .t (.lst (d.args.map Arg.enc))])], 1⟩ }) (fun r i _ => badR d.name [] d.args = badR d.name (d.args.take i) r) 1 () rfl rfl rfl rfl rfl ?_ ?_
  · intro _ hinv
    have hb1 : badR d.name [] d.args = false := by rw [hinv]; rfl
    refine fR rfl ?_
    refine lM rfl rfl rfl ?_
    refine fM rfl ?_
    refine Run.condF rfl rfl (by simp) ?_
    refine fR rfl ?_
    refine Mid.call (needed_ok H d.name) rfl rfl rfl rfl ?_
    refine fM rfl ?_
    refine Run.cond rfl rfl (fun hn => ?_) (fun hn => ?_)
    · have hn' : (needF d.name != []) = true := hn
      refine fR rfl ?_
      refine Mid.call (needed_ok H d.name) rfl rfl rfl rfl ?_
      skip
      refine Mid.call (argV_ok H 57 d hl (needF d.name) (.inr rfl)) rfl rfl rfl rfl ?_
      refine fM rfl ?_
      refine Run.cond rfl rfl (fun hm => ?_) (fun hm => ?_)
      · have e : argsR d.name d.args = 22 := by unfold argsR; rw [if_neg (by rw [hb1]; simp), if_pos (by rw [hn', show (!(argF (needF d.name) d.args).isSome) = true from hm]; rfl)]
        rw [e]
        refine fR rfl ?_
        refine Run.fin rfl (EndOk.go ?_); exact .t rfl
      · exact rWeakC 1 rfl (tail hb1 (by rw [hn', show (!(argF (needF d.name) d.args).isSome) = false from hm]; rfl)) rfl rfl rfl
    · have hn' : (needF d.name != []) = false := hn
      exact rWeakC 1 rfl (tail hb1 (by rw [hn']; rfl)) rfl rfl rfl
  · intro i x r _ g1 hi hdr hinv ih
    have hx := hd.an x (List.mem_of_getElem? g1)
    have htk : d.args.take i ++ [x] = d.args.take (i + 1) := by rw [List.take_add_one, g1]; rfl
    obtain ⟨b, hk⟩ := kind_ok H d.name x.name hnm hx.1
    refine fR rfl ?_
    refine lM rfl rfl rfl ?_
    refine fM rfl ?_
    refine Run.condT rfl rfl (by simp; omega) ?_
    refine fR rfl ?_
    refine Mid.elemMap rfl rfl rfl g1 rfl rfl ?_
    refine fM rfl ?_
    refine Mid.call (hk) rfl rfl rfl rfl ?_
    refine fM rfl ?_
    refine Run.cond rfl rfl (fun hc => ?_) (fun hc => ?_)
    · have e : argsR d.name d.args = 22 := by
        unfold argsR
        rw [if_pos (by rw [hinv, badR, show (kstr d.name x.name == []) = true from hc]; rfl)]
      rw [e]
      refine fR rfl ?_
      refine Run.fin rfl (EndOk.go ?_); exact .t rfl
    · have hc' : (kstr d.name x.name == []) = false := hc
      refine fR rfl ?_
      refine rList (d.args.take i) (fun k (_ : Unit) => { env := [(1, .ptr 0 0), (3, .t (.int .i64 i)), (6, .t (.int .i64 k))], s := ⟨[(0, .cells [.t (.str d.name), .t (.lst (d.args.map Arg.enc))])], 1⟩ }) (fun r' k _ => ((d.args.take i).any fun y => y.name == x.name) = r'.any fun y => y.name == x.name) 1 () rfl rfl rfl rfl rfl ?_ ?_
      · intro _ hm
        refine fR rfl ?_
        refine Run.condF rfl rfl (by simp; omega) ?_
        refine fR rfl ?_
        refine aL rfl rfl rfl rfl rfl ?_
        refine fM rfl ?_
        exact rWeak 1 rfl (ih () (by rw [hinv, badR, hc', hm, ← htk]; rfl)) rfl rfl rfl
      · intro k y r' _ g2 gi gd hm ih2
        have gi' : k < i := by rw [List.length_take] at gi; omega
        have g3 : d.args[k]? = some y := by rw [List.getElem?_take, if_pos gi'] at g2; exact g2
        refine fR rfl ?_
        refine Run.condT rfl rfl (by simp; omega) ?_
        refine fR rfl ?_
        refine Mid.elemMap rfl rfl rfl g3 rfl rfl ?_
        refine fM rfl ?_
        refine Mid.elemMap rfl rfl rfl g1 rfl rfl ?_
        refine fM rfl ?_
        refine Run.cond rfl rfl (fun he => ?_) (fun he => ?_)
        · have e : argsR d.name d.args = 22 := by
            unfold argsR
            rw [if_pos (by rw [hinv, badR, hc', hm, List.any_cons, show (y.name == x.name) = true from he]; rfl)]
          rw [e]
          refine fR rfl ?_
          refine Run.fin rfl (EndOk.go ?_); exact .t rfl
        · refine fR rfl ?_
          refine aL rfl rfl rfl rfl rfl ?_
          refine fM rfl ?_
          exact rWeak 1 rfl (ih2 () (by rw [hm, List.any_cons, show (y.name == x.name) = false from he]; rfl)) rfl rfl rfl
end Go.GB.C23


/-
  F23H: chapter 23's functions: judging uses of directives.
-/
namespace Go.GB.C23
open Go.GB Go.GB.C11
set_option linter.unusedSimpArgs false
set_option linter.unusedVariables false
set_option maxRecDepth 100000
set_option maxHeartbeats 4000000
variable {P : Program}

/-- lists of uses whose texts are not long -/
structure DsOk (l : List Dir) : Prop where
  len : l.length ≤ 2199023255552
  all : ∀ d, d ∈ l → DOk d
end Go.GB.C23


/-
  F23I: chapter 23's functions: violations of documents, both ways.
-/
namespace Go.GB.C23
open Go.GB Go.GB.C11
set_option linter.unusedSimpArgs false
set_option linter.unusedVariables false
set_option maxRecDepth 100000
set_option maxHeartbeats 4000000
variable {P : Program}
theorem codeR29 {pre : List Dir} {x : Dir} {q : Int} (h : mayF x.name q = false) : codeR pre x q = 29 := by unfold codeR; rw [if_pos h]
theorem codeR7 {pre : List Dir} {x : Dir} {q : Int} (h : mayF x.name q = true) (h2 : ((hasD x.name pre && x.name != ([107, 101, 121] : Str)) && x.name != ([116, 97, 103] : Str)) = true) : codeR pre x q = 7 := by unfold codeR; rw [if_neg (by rw [h]; simp), if_pos h2]
theorem codeRA {pre : List Dir} {x : Dir} {q : Int} (h : mayF x.name q = true) (h2 : ((hasD x.name pre && x.name != ([107, 101, 121] : Str)) && x.name != ([116, 97, 103] : Str)) = false) : codeR pre x q = argsR x.name x.args := by unfold codeR; rw [if_neg (by rw [h]; simp), if_neg (by rw [h2]; simp)]

theorem rUses_ok (H : Pr23 P) (l : List Dir) (hd : DsOk l) (k : Nat) (p q : Int) (hk : plR k = (p, q)) (at_ : Str) : FnOk P 53 [.t (.lst (l.map Dir.enc)), .t (.int .i64 q), .t (.str at_)] ⟨[], 0⟩ { v := .t (.lst ((usesF p at_ [] l).map Fault.enc)) } := by
  have hll := hd.len
  have hR : ∀ R, usesF p at_ [] l = R → FnOk P 53 [.t (.lst (l.map Dir.enc)), .t (.int .i64 q), .t (.str at_)] ⟨[], 0⟩ { v := .t (.lst (R.map Fault.enc)) } := by
    intro R hR
    refine FnOk.run H.i53 H.mixed rfl rfl ?_
    refine fR rfl ?_
    refine rList l (fun i (B : List Fault) => { env := [(0, .t (.lst (l.map Dir.enc))), (1, .t (.int .i64 q)), (2, .t (.str at_)), (7, .own 0 2 (B.map Fault.enc)), (8, .t (.int .i64 i))], s := ⟨[(0, .arr B.length)], 1⟩ }) (fun r i B => B.length ≤ i ∧ B ++ usesF p at_ (l.take i) r = R) 0 [] rfl ⟨by simp, hR⟩ rfl rfl rfl ?_ ?_
    · rintro B ⟨_, hB⟩
      have hB' : B = R := by rw [← hB]; simp [usesF]
      subst hB'
      refine fR rfl ?_
      refine lM rfl rfl rfl ?_
      refine fM rfl ?_
      refine Run.condF rfl rfl (by simp) ?_
      refine fR rfl ?_
      refine Run.fin rfl (EndOk.go ?_); exact .own rfl
    · rintro i x r B h1 hi hdr ⟨hBl, hB⟩ ih
      have hBl' : B.length ≤ i := hBl
      have hx := hd.all x (List.mem_of_getElem? h1)
      have htk : l.take i ++ [x] = l.take (i + 1) := by rw [List.take_add_one, h1]; rfl
      have hco : codeR (l.take i) x q = judgeF (l.take i) x p := by have := code_eq (l.take i) x k; rw [hk] at this; exact this
      rw [usesF, htk, ← hco] at hB
      refine fR rfl ?_
      refine lM rfl rfl rfl ?_
      refine fM rfl ?_
      refine Run.condT rfl rfl (by simp; omega) ?_
      refine fR rfl ?_
      refine Mid.elemMap rfl rfl rfl h1 rfl rfl ?_
      refine fM rfl ?_
      refine Mid.call (args_ok H x hx) rfl rfl rfl rfl ?_
      refine fM rfl ?_
      refine lTo rfl rfl rfl rfl ?_
      refine fM rfl ?_
      refine Mid.call (hasD_ok H 19 (l.take i) (by rw [List.length_take]; omega) x.name (.inr rfl)) rfl rfl rfl rfl ?_
      refine fM rfl ?_
      refine Run.cond rfl rfl (fun hc => ?_) (fun hc => ?_)
      · have hc' : ((hasD x.name (l.take i) && x.name != ([107, 101, 121] : Str)) && x.name != ([116, 97, 103] : Str)) = true := hc
        refine fR rfl ?_
        refine Mid.call (may_ok H x.name q) rfl rfl rfl rfl ?_
        refine fM rfl ?_
        refine Run.cond rfl rfl (fun hm => ?_) (fun hm => ?_)
        · have hm' : mayF x.name q = false := by simpa using hm
          rw [codeR29 hm', if_neg (by decide)] at hB
          refine fR rfl ?_
          refine Run.condT rfl rfl rfl ?_
          refine fR rfl ?_
          refine apM Fault.enc B [(⟨29, at_⟩ : Fault)] rfl rfl rfl rfl rfl ?_ (h1 := by first | omega | (simp; omega) | (simp; done)) (h2 := by first | omega | (simp; omega) | (simp; done))
          refine fM rfl ?_
          refine aL rfl rfl rfl rfl rfl ?_
          refine fM rfl ?_
          exact rWeak 1 rfl (ih (B ++ [⟨29, at_⟩]) ⟨by simp; omega, by rw [List.append_assoc]; exact hB⟩) rfl rfl rfl
        · have hm' : mayF x.name q = true := by simpa using hm
          rw [codeR7 hm' hc', if_neg (by decide)] at hB
          refine fR rfl ?_
          refine Run.condT rfl rfl rfl ?_
          refine fR rfl ?_
          refine apM Fault.enc B [(⟨7, at_⟩ : Fault)] rfl rfl rfl rfl rfl ?_ (h1 := by first | omega | (simp; omega) | (simp; done)) (h2 := by first | omega | (simp; omega) | (simp; done))
          refine fM rfl ?_
          refine aL rfl rfl rfl rfl rfl ?_
          refine fM rfl ?_
          exact rWeak 1 rfl (ih (B ++ [⟨7, at_⟩]) ⟨by simp; omega, by rw [List.append_assoc]; exact hB⟩) rfl rfl rfl
      · have hc' : ((hasD x.name (l.take i) && x.name != ([107, 101, 121] : Str)) && x.name != ([116, 97, 103] : Str)) = false := hc
        refine fR rfl ?_
        refine Mid.call (may_ok H x.name q) rfl rfl rfl rfl ?_
        refine fM rfl ?_
        refine Run.cond rfl rfl (fun hm => ?_) (fun hm => ?_)
        · have hm' : mayF x.name q = false := by simpa using hm
          rw [codeR29 hm', if_neg (by decide)] at hB
          refine fR rfl ?_
          refine Run.condT rfl rfl rfl ?_
          refine fR rfl ?_
          refine apM Fault.enc B [(⟨29, at_⟩ : Fault)] rfl rfl rfl rfl rfl ?_ (h1 := by first | omega | (simp; omega) | (simp; done)) (h2 := by first | omega | (simp; omega) | (simp; done))
          refine fM rfl ?_
          refine aL rfl rfl rfl rfl rfl ?_
          refine fM rfl ?_
          exact rWeak 1 rfl (ih (B ++ [⟨29, at_⟩]) ⟨by simp; omega, by rw [List.append_assoc]; exact hB⟩) rfl rfl rfl
        · have hm' : mayF x.name q = true := by simpa using hm
          rw [codeRA hm' hc'] at hB
          refine fR rfl ?_
          refine Run.cond rfl rfl (fun h0 => ?_) (fun h0 => ?_)
          · have h0' : ¬ argsR x.name x.args = 0 := by simpa using h0
            rw [if_neg h0'] at hB
            refine fR rfl ?_
            refine apM Fault.enc B [(⟨argsR x.name x.args, at_⟩ : Fault)] rfl rfl rfl rfl rfl ?_ (h1 := by first | omega | (simp; omega) | (simp; done)) (h2 := by first | omega | (simp; omega) | (simp; done))
            refine fM rfl ?_
            refine aL rfl rfl rfl rfl rfl ?_
            refine fM rfl ?_
            exact rWeak 1 rfl (ih (B ++ [⟨argsR x.name x.args, at_⟩]) ⟨by simp; omega, by rw [List.append_assoc]; exact hB⟩) rfl rfl rfl
          · have h0' : argsR x.name x.args = 0 := by simpa using h0
            rw [if_pos h0', List.nil_append] at hB
            refine fR rfl ?_
            refine aL rfl rfl rfl rfl rfl ?_
            refine fM rfl ?_
            exact rWeak 1 rfl (ih B ⟨by omega, hB⟩) rfl rfl rfl
  exact hR _ rfl
/-- documents whose texts are not long -/
structure InpD (a : Input) : Prop where
  nm : a.name.length ≤ 140737488355328
  d : DsOk a.dirs
structure FldD (f : Field) : Prop where
  nm : f.name.length ≤ 140737488355328
  d : DsOk f.dirs
  al : f.args.length ≤ 140737488355328
  a : ∀ x, x ∈ f.args → InpD x
structure MemD (m : Member) : Prop where
  nm : m.name.length ≤ 140737488355328
  d : DsOk m.dirs
structure DefD (t : Def) : Prop where
  nm : t.name.length ≤ 140737488355328
  d : DsOk t.dirs
  fl : t.fields.length ≤ 549755813888
  f : ∀ x, x ∈ t.fields → FldD x
  ml : t.members.length ≤ 549755813888
  m : ∀ x, x ∈ t.members → MemD x
  il : t.inputs.length ≤ 549755813888
  i : ∀ x, x ∈ t.inputs → InpD x
def plK (k : Int) : Int := if k = 2 then 8 else 4
theorem rFields_ok (H : Pr23 P) (t : Def) (ht : DefD t) (hl : (fldL t.name (plK t.kind) t.fields).length ≤ 4398046511104) : FnOk P 54 [t.v] ⟨[], 0⟩ { v := .t (.lst ((fldL t.name (plK t.kind) t.fields).map Fault.enc)) } := by
  have hfl := ht.fl
  have hnm := ht.nm
  have hR : ∀ R, fldL t.name (plK t.kind) t.fields = R → R.length ≤ 4398046511104 → FnOk P 54 [t.v] ⟨[], 0⟩ { v := .t (.lst (R.map Fault.enc)) } := by
    intro R hR hl
    have go : ∀ (k : Nat) (p q : Int), plR k = (p, q) → fldL t.name p t.fields = R → Run P n54 0 (EndOk ⟨[], 0⟩ { v := .t (.lst (R.map Fault.enc)) } r54 .ret) [It.c c54_16, It.blk 0, It.c c54_0] { env := [(1, .ptr 0 0), (3, .nils), (4, .t (.int .i64 q)), (5, .t (.int .i64 0))], s := ⟨[(0, (.cells [.t (.int .i64 t.kind), .t (.str t.name), .t (.lst (t.implements.map sE)), .t (.lst (t.dirs.map Dir.enc)), .t (.lst (t.fields.map Field.enc)), .t (.lst (t.members.map Member.enc)), .t (.lst (t.inputs.map Input.enc))]))], 1⟩ } := by
      intro k p q hk hR
      refine rList t.fields (fun i (B : List Fault) => { env := [(1, .ptr 0 0), (3, .own 1 2 (B.map Fault.enc)), (4, .t (.int .i64 q)), (5, .t (.int .i64 i))], s := ⟨[(0, (.cells [.t (.int .i64 t.kind), .t (.str t.name), .t (.lst (t.implements.map sE)), .t (.lst (t.dirs.map Dir.enc)), .t (.lst (t.fields.map Field.enc)), .t (.lst (t.members.map Member.enc)), .t (.lst (t.inputs.map Input.enc))])), (1, .arr B.length)], 2⟩ }) (fun r i B => B ++ fldL t.name p r = R) 1 [] rfl hR rfl rfl rfl ?_ ?_
      · rintro B hB
        have hB' : B = R := by rw [← hB]; simp [fldL]
        subst hB'
        refine fR rfl ?_
        refine lM rfl rfl rfl ?_
        refine fM rfl ?_
        refine Run.condF rfl rfl (by simp) ?_
        refine fR rfl ?_
        refine Run.fin rfl (EndOk.go ?_); exact .own rfl
      · rintro i x r B h1 hi hdr hB ih
        have hx := ht.f x (List.mem_of_getElem? h1)
        have hxn := hx.nm
        have hal := hx.al
        have hlen := congrArg List.length hB
        simp only [fldL, List.length_append] at hlen
        refine fR rfl ?_
        refine lM rfl rfl rfl ?_
        refine fM rfl ?_
        refine Run.condT rfl rfl (by simp; omega) ?_
        refine fR rfl ?_
        refine Mid.elemMap rfl rfl rfl h1 rfl rfl ?_
        refine fM rfl ?_
        refine pu rfl ?_
        refine fM rfl ?_
        refine pu rfl ?_
        refine fM rfl ?_
        refine Mid.call (rUses_ok H x.dirs hx.d k p q hk (t.name ++ [46] ++ x.name)) rfl rfl rfl rfl ?_
        skip
        refine apM Fault.enc B (usesF p (t.name ++ [46] ++ x.name) [] x.dirs) rfl rfl rfl rfl rfl ?_ (h1 := by first | omega | (simp; omega) | (simp; done)) (h2 := by first | omega | (simp; omega) | (simp; done))
        refine fM rfl ?_
        refine rList x.args (fun j (C : List Fault) => { env := [(1, .ptr 0 0), (3, .own 1 2 (C.map Fault.enc)), (4, .t (.int .i64 q)), (5, .t (.int .i64 i)), (6, .ptr 2 0), (7, .t (.str (t.name ++ [46] ++ x.name))), (8, .t (.int .i64 j))], s := ⟨[(0, (.cells [.t (.int .i64 t.kind), .t (.str t.name), .t (.lst (t.implements.map sE)), .t (.lst (t.dirs.map Dir.enc)), .t (.lst (t.fields.map Field.enc)), .t (.lst (t.members.map Member.enc)), .t (.lst (t.inputs.map Input.enc))])), (1, .arr C.length), (2, (.cells [.t (.str x.name), .t (.lst (x.args.map Input.enc)), .t (.str x.ty.name), .t (.lst (x.ty.wraps.map nE)), .t (.lst (x.dirs.map Dir.enc))]))], 3⟩ }) (fun r2 j C => C ++ (argL (t.name ++ [46] ++ x.name) r2 ++ fldL t.name p r) = R) 3 (B ++ usesF p (t.name ++ [46] ++ x.name) [] x.dirs) rfl (by rw [← hB]; simp [fldL]) rfl rfl rfl ?_ ?_
        · rintro C hC
          refine fR rfl ?_
          refine lM rfl rfl rfl ?_
          refine fM rfl ?_
          refine Run.condF rfl rfl (by simp) ?_
          refine fR rfl ?_
          refine aL rfl rfl rfl rfl rfl ?_
          refine fM rfl ?_
          exact rWeak 2 rfl (ih C (by rw [← hC]; simp [argL])) rfl rfl rfl
        · rintro j a r2 C h2 hj hjd hC ih2
          have ha := hx.a a (List.mem_of_getElem? h2)
          have han := ha.nm
          have hlen2 := congrArg List.length hC
          simp only [argL, List.length_append] at hlen2
          refine fR rfl ?_
          refine lM rfl rfl rfl ?_
          refine fM rfl ?_
          refine Run.condT rfl rfl (by simp; omega) ?_
          refine fR rfl ?_
          refine Mid.elemMap rfl rfl rfl h2 rfl rfl ?_
          refine fM rfl ?_
          refine pu rfl ?_
          refine fM rfl ?_
          refine Mid.elemMap rfl rfl rfl h2 rfl rfl ?_
          refine fM rfl ?_
          refine pu rfl ?_
          refine pu rfl ?_
          refine Mid.call (rUses_ok H a.dirs ha.d 5 0 6 rfl (t.name ++ [46] ++ x.name ++ [40] ++ a.name ++ [41])) rfl rfl rfl rfl ?_
          skip
          refine apM Fault.enc C (usesF 0 (t.name ++ [46] ++ x.name ++ [40] ++ a.name ++ [41]) [] a.dirs) rfl rfl rfl rfl rfl ?_ (h1 := by first | omega | (simp; omega) | (simp; done)) (h2 := by first | omega | (simp; omega) | (simp; done))
          refine fM rfl ?_
          refine aL rfl rfl rfl rfl rfl ?_
          refine fM rfl ?_
          exact rWeak 3 rfl (ih2 (C ++ usesF 0 (t.name ++ [46] ++ x.name ++ [40] ++ a.name ++ [41]) [] a.dirs) (by rw [← hC]; simp [argL])) rfl rfl rfl
    refine FnOk.run H.i54 H.mixed rfl rfl ?_
    refine fR rfl ?_
    refine Run.cond rfl rfl (fun h2 => ?_) (fun h2 => ?_)
    · have h2' : t.kind = 2 := by simpa using h2
      rw [plK, if_pos h2'] at hR
      refine fR rfl ?_
      exact rWeakC 1 rfl (go 3 8 4 rfl hR) rfl rfl rfl
    · have h2' : ¬ t.kind = 2 := by simpa using h2
      rw [plK, if_neg h2'] at hR
      refine fR rfl ?_
      exact rWeakC 1 rfl (go 2 4 3 rfl hR) rfl rfl rfl
  exact hR _ rfl hl
theorem rMembers_ok (H : Pr23 P) (t : Def) (ht : DefD t) (k : Nat) (p q : Int) (hk : plR k = (p, q)) (hl : (memL t.name p t.members).length ≤ 4398046511104) : FnOk P 55 [t.v, .t (.int .i64 q)] ⟨[], 0⟩ { v := .t (.lst ((memL t.name p t.members).map Fault.enc)) } := by
  have hml := ht.ml
  have hnm := ht.nm
  have hR : ∀ R, memL t.name p t.members = R → R.length ≤ 4398046511104 → FnOk P 55 [t.v, .t (.int .i64 q)] ⟨[], 0⟩ { v := .t (.lst (R.map Fault.enc)) } := by
    intro R hR hl
    refine FnOk.run H.i55 H.mixed rfl rfl ?_
    refine fR rfl ?_
    refine rList t.members (fun i (B : List Fault) => { env := [(1, .t (.int .i64 q)), (2, .ptr 0 0), (5, .own 1 2 (B.map Fault.enc)), (6, .t (.int .i64 i))], s := ⟨[(0, (.cells [.t (.int .i64 t.kind), .t (.str t.name), .t (.lst (t.implements.map sE)), .t (.lst (t.dirs.map Dir.enc)), .t (.lst (t.fields.map Field.enc)), .t (.lst (t.members.map Member.enc)), .t (.lst (t.inputs.map Input.enc))])), (1, .arr B.length)], 2⟩ }) (fun r i B => B ++ memL t.name p r = R) 1 [] rfl hR rfl rfl rfl ?_ ?_
    · rintro B hB
      have hB' : B = R := by rw [← hB]; simp [memL]
      subst hB'
      refine fR rfl ?_
      refine lM rfl rfl rfl ?_
      refine fM rfl ?_
      refine Run.condF rfl rfl (by simp) ?_
      refine fR rfl ?_
      refine Run.fin rfl (EndOk.go ?_); exact .own rfl
    · rintro i x r B h1 hi hdr hB ih
      have hx := ht.m x (List.mem_of_getElem? h1)
      have hxn := hx.nm
      have hlen := congrArg List.length hB
      simp only [memL, List.length_append] at hlen
      refine fR rfl ?_
      refine lM rfl rfl rfl ?_
      refine fM rfl ?_
      refine Run.condT rfl rfl (by simp; omega) ?_
      refine fR rfl ?_
      refine Mid.elemMap rfl rfl rfl h1 rfl rfl ?_
      refine fM rfl ?_
      refine pu rfl ?_
      refine fM rfl ?_
      refine Mid.elemMap rfl rfl rfl h1 rfl rfl ?_
      refine fM rfl ?_
      refine pu rfl ?_
      refine Mid.call (rUses_ok H x.dirs hx.d k p q hk (t.name ++ [46] ++ x.name)) rfl rfl rfl rfl ?_
      skip
      refine apM Fault.enc B (usesF p (t.name ++ [46] ++ x.name) [] x.dirs) rfl rfl rfl rfl rfl ?_ (h1 := by first | omega | (simp; omega) | (simp; done)) (h2 := by first | omega | (simp; omega) | (simp; done))
      refine fM rfl ?_
      refine aL rfl rfl rfl rfl rfl ?_
      refine fM rfl ?_
      exact rWeak 2 rfl (ih (B ++ usesF p (t.name ++ [46] ++ x.name) [] x.dirs) (by rw [← hB]; simp [memL])) rfl rfl rfl
  exact hR _ rfl hl
theorem partL1 {t : Def} (h : t.kind = 1 ∨ t.kind = 2) : partL t = fldL t.name (plK t.kind) t.fields := by
  unfold partL plK
  rcases h with h | h <;> simp [h]
theorem partL3 {t : Def} (h : t.kind = 3) : partL t = memL t.name 0 t.members := by unfold partL; simp [h]
theorem partL4 {t : Def} (h : t.kind = 4) : partL t = memL t.name 16 t.members := by unfold partL; simp [h]
theorem partL5 {t : Def} (h : t.kind = 5) : partL t = inpL t.name t.inputs := by unfold partL; simp [h]
theorem partL0 {t : Def} (h1 : ¬ t.kind = 1) (h2 : ¬ t.kind = 2) (h3 : ¬ t.kind = 3) (h4 : ¬ t.kind = 4) (h5 : ¬ t.kind = 5) : partL t = [] := by unfold partL; simp [h1, h2, h3, h4, h5]
theorem rCheck_ok (H : Pr23 P) (ds : List Def) (hdl : ds.length ≤ 140737488355328) (hD : ∀ t, t ∈ ds → DefD t) (hl : (chkD ds).length ≤ 4398046511104) : FnOk P 18 [docV ds] ⟨[], 0⟩ { v := .t (.lst ((chkD ds).map Fault.enc)) } := by
  have hR : ∀ R, chkD ds = R → R.length ≤ 4398046511104 → FnOk P 18 [docV ds] ⟨[], 0⟩ { v := .t (.lst (R.map Fault.enc)) } := by
    intro R hR hl
    refine FnOk.run H.i18 H.mixed rfl rfl ?_
    refine fR rfl ?_
    refine rList ds (fun i (B : List Fault) => { env := [(1, .ptr 0 0), (3, .own 1 2 (B.map Fault.enc)), (4, .t (.int .i64 i))], s := ⟨[(0, .cells [.t (.lst (ds.map Def.enc))]), (1, .arr B.length)], 2⟩ }) (fun r i B => B ++ chkD r = R) 1 [] rfl hR rfl rfl rfl ?_ ?_
    · rintro B hB
      have hB' : B = R := by rw [← hB]; simp [chkD]
      subst hB'
      refine fR rfl ?_
      refine lM rfl rfl rfl ?_
      refine fM rfl ?_
      refine Run.condF rfl rfl (by simp) ?_
      refine fR rfl ?_
      refine Run.fin rfl (EndOk.go ?_); exact .own rfl
    · rintro i t r B h1 hi hdr hB ih
      have ht := hD t (List.mem_of_getElem? h1)
      have hnm := ht.nm
      have hlen := congrArg List.length hB
      simp only [chkD, defL, List.length_append] at hlen
      have hB2 : (B ++ usesF (ownP t.kind) t.name [] t.dirs) ++ partL t ++ chkD r = R := by rw [← hB]; simp [chkD, defL]
      refine fR rfl ?_
      refine lM rfl rfl rfl ?_
      refine fM rfl ?_
      refine Run.condT rfl rfl (by simp; omega) ?_
      refine fR rfl ?_
      refine Mid.elemMap rfl rfl rfl h1 rfl rfl ?_
      refine fM rfl ?_
      by_cases k1 : t.kind = 1
      · have ho : ownP t.kind = 1 := by unfold ownP; rw [if_pos k1]
        rw [ho] at hB2 hlen
        rw [partL1 (.inl k1)] at hB2 hlen
        refine Run.condT rfl rfl (by simp [k1]) ?_
        refine fR rfl ?_
        refine Mid.call (rUses_ok H t.dirs ht.d 0 1 1 rfl t.name) rfl rfl rfl rfl ?_
        skip
        refine apM Fault.enc B (usesF 1 t.name [] t.dirs) rfl rfl rfl rfl rfl ?_ (h1 := by first | omega | (simp; omega) | (simp; done)) (h2 := by first | omega | (simp; omega) | (simp; done))
        refine fM rfl ?_
        refine Run.condT rfl rfl (by simp [k1]) ?_
        refine Run.condT rfl rfl (by simp [k1]) ?_
        refine fR rfl ?_
        refine Mid.call (rFields_ok H t ht (by omega)) rfl rfl rfl rfl ?_
        skip
        refine apM Fault.enc (B ++ usesF 1 t.name [] t.dirs) (fldL t.name (plK t.kind) t.fields) rfl rfl rfl rfl rfl ?_ (h1 := by first | omega | (simp; omega) | (simp; done)) (h2 := by first | omega | (simp; omega) | (simp; done))
        refine fM rfl ?_
        refine aL rfl rfl rfl rfl rfl ?_
        refine fM rfl ?_
        exact rWeak 2 rfl (ih (B ++ usesF 1 t.name [] t.dirs ++ fldL t.name (plK t.kind) t.fields) hB2) rfl rfl rfl
      · have ho : ownP t.kind = 2 := by unfold ownP; rw [if_neg k1]
        rw [ho] at hB2 hlen
        refine Run.condF rfl rfl (by simp [k1]) ?_
        refine fR rfl ?_
        refine Mid.call (rUses_ok H t.dirs ht.d 1 2 2 rfl t.name) rfl rfl rfl rfl ?_
        skip
        refine apM Fault.enc B (usesF 2 t.name [] t.dirs) rfl rfl rfl rfl rfl ?_ (h1 := by first | omega | (simp; omega) | (simp; done)) (h2 := by first | omega | (simp; omega) | (simp; done))
        refine fM rfl ?_
        refine Run.condF rfl rfl (by simp [k1]) ?_
        refine fR rfl ?_
        by_cases k2 : t.kind = 2
        · rw [partL1 (.inr k2)] at hB2 hlen
          refine Run.condT rfl rfl (by simp [k2]) ?_
          refine fR rfl ?_
          refine Mid.call (rFields_ok H t ht (by omega)) rfl rfl rfl rfl ?_
          skip
          refine apM Fault.enc (B ++ usesF 2 t.name [] t.dirs) (fldL t.name (plK t.kind) t.fields) rfl rfl rfl rfl rfl ?_ (h1 := by first | omega | (simp; omega) | (simp; done)) (h2 := by first | omega | (simp; omega) | (simp; done))
          refine fM rfl ?_
          refine aL rfl rfl rfl rfl rfl ?_
          refine fM rfl ?_
          exact rWeak 2 rfl (ih (B ++ usesF 2 t.name [] t.dirs ++ fldL t.name (plK t.kind) t.fields) hB2) rfl rfl rfl
        · refine Run.condF rfl rfl (by simp [k2]) ?_
          refine fR rfl ?_
          by_cases k3 : t.kind = 3
          · rw [partL3 k3] at hB2 hlen
            refine Run.condT rfl rfl (by simp [k3]) ?_
            refine fR rfl ?_
            refine Mid.call (rMembers_ok H t ht 5 0 6 rfl (by omega)) rfl rfl rfl rfl ?_
            skip
            refine apM Fault.enc (B ++ usesF 2 t.name [] t.dirs) (memL t.name 0 t.members) rfl rfl rfl rfl rfl ?_ (h1 := by first | omega | (simp; omega) | (simp; done)) (h2 := by first | omega | (simp; omega) | (simp; done))
            refine fM rfl ?_
            refine aL rfl rfl rfl rfl rfl ?_
            refine fM rfl ?_
            exact rWeak 2 rfl (ih (B ++ usesF 2 t.name [] t.dirs ++ memL t.name 0 t.members) hB2) rfl rfl rfl
          · refine Run.condF rfl rfl (by simp [k3]) ?_
            refine fR rfl ?_
            by_cases k4 : t.kind = 4
            · rw [partL4 k4] at hB2 hlen
              refine Run.condT rfl rfl (by simp [k4]) ?_
              refine fR rfl ?_
              refine Mid.call (rMembers_ok H t ht 4 16 5 rfl (by omega)) rfl rfl rfl rfl ?_
              skip
              refine apM Fault.enc (B ++ usesF 2 t.name [] t.dirs) (memL t.name 16 t.members) rfl rfl rfl rfl rfl ?_ (h1 := by first | omega | (simp; omega) | (simp; done)) (h2 := by first | omega | (simp; omega) | (simp; done))
              refine fM rfl ?_
              refine aL rfl rfl rfl rfl rfl ?_
              refine fM rfl ?_
              exact rWeak 2 rfl (ih (B ++ usesF 2 t.name [] t.dirs ++ memL t.name 16 t.members) hB2) rfl rfl rfl
            · refine Run.condF rfl rfl (by simp [k4]) ?_
              refine fR rfl ?_
              by_cases k5 : t.kind = 5
              · rw [partL5 k5] at hB2 hlen
                have hil := ht.il
                refine Run.condT rfl rfl (by simp [k5]) ?_
                refine fR rfl ?_
                refine rList t.inputs (fun j (C : List Fault) => { env := [(1, .ptr 0 0), (3, .own 1 2 (C.map Fault.enc)), (4, .t (.int .i64 i)), (5, .ptr 2 0), (7, .t (.int .i64 j))], s := ⟨[(0, .cells [.t (.lst (ds.map Def.enc))]), (1, .arr C.length), (2, (.cells [.t (.int .i64 t.kind), .t (.str t.name), .t (.lst (t.implements.map sE)), .t (.lst (t.dirs.map Dir.enc)), .t (.lst (t.fields.map Field.enc)), .t (.lst (t.members.map Member.enc)), .t (.lst (t.inputs.map Input.enc))]))], 3⟩ }) (fun r2 j C => C ++ (inpL t.name r2 ++ chkD r) = R) 3 (B ++ usesF 2 t.name [] t.dirs) rfl (by rw [← hB2]; simp) rfl rfl rfl ?_ ?_
                · rintro C hC
                  refine fR rfl ?_
                  refine lM rfl rfl rfl ?_
                  refine fM rfl ?_
                  refine Run.condF rfl rfl (by simp) ?_
                  refine fR rfl ?_
                  refine aL rfl rfl rfl rfl rfl ?_
                  refine fM rfl ?_
                  exact rWeak 2 rfl (ih C (by rw [← hC]; simp [inpL])) rfl rfl rfl
                · rintro j a r2 C h2 hj hjd hC ih2
                  have ha := ht.i a (List.mem_of_getElem? h2)
                  have han := ha.nm
                  have hlen2 := congrArg List.length hC
                  simp only [inpL, List.length_append] at hlen2
                  refine fR rfl ?_
                  refine lM rfl rfl rfl ?_
                  refine fM rfl ?_
                  refine Run.condT rfl rfl (by simp; omega) ?_
                  refine fR rfl ?_
                  refine Mid.elemMap rfl rfl rfl h2 rfl rfl ?_
                  refine fM rfl ?_
                  refine pu rfl ?_
                  refine fM rfl ?_
                  refine Mid.elemMap rfl rfl rfl h2 rfl rfl ?_
                  refine fM rfl ?_
                  refine pu rfl ?_
                  refine Mid.call (rUses_ok H a.dirs ha.d 5 0 6 rfl (t.name ++ [46] ++ a.name)) rfl rfl rfl rfl ?_
                  skip
                  refine apM Fault.enc C (usesF 0 (t.name ++ [46] ++ a.name) [] a.dirs) rfl rfl rfl rfl rfl ?_ (h1 := by first | omega | (simp; omega) | (simp; done)) (h2 := by first | omega | (simp; omega) | (simp; done))
                  refine fM rfl ?_
                  refine aL rfl rfl rfl rfl rfl ?_
                  refine fM rfl ?_
                  exact rWeak 3 rfl (ih2 (C ++ usesF 0 (t.name ++ [46] ++ a.name) [] a.dirs) (by rw [← hC]; simp [inpL])) rfl rfl rfl
              · rw [partL0 k1 k2 k3 k4 k5] at hB2
                refine Run.condF rfl rfl (by simp [k5]) ?_
                refine fR rfl ?_
                refine aL rfl rfl rfl rfl rfl ?_
                refine fM rfl ?_
                exact rWeak 2 rfl (ih (B ++ usesF 2 t.name [] t.dirs) (by rw [← hB2]; simp)) rfl rfl rfl
  exact hR _ rfl hl
end Go.GB.C23


/-
  F23K: chapter 23's functions: the directives without those of subgraphs; values found.
-/
namespace Go.GB.C23
open Go.GB Go.GB.C11
set_option linter.unusedSimpArgs false
set_option linter.unusedVariables false
set_option maxRecDepth 100000
set_option maxHeartbeats 4000000
variable {P : Program}
/-- the value of an argument of the first of the uses by a name -/
def argD (n a : Str) : List Dir → Option Val
  | [] => none
  | d :: r => if d.name = n then argF a d.args else argD n a r
structure AOk (l : List Dir) : Prop where
  len : l.length ≤ 1099511627776
  all : ∀ d, d ∈ l → d.args.length ≤ 140737488355328
theorem arg_ok (H : Pr23 P) (l : List Dir) (hd : AOk l) (n a : Str) : FnOk P 23 [.t (.lst (l.map Dir.enc)), .t (.str n), .t (.str a)] ⟨[], 0⟩ { v := .tup [((argD n a l).getD Val.zero).v, .t (.bool (argD n a l).isSome)] } := by
  have hl := hd.len
  have hR : ∀ R, argD n a l = R → FnOk P 23 [.t (.lst (l.map Dir.enc)), .t (.str n), .t (.str a)] ⟨[], 0⟩ { v := .tup [(R.getD Val.zero).v, .t (.bool R.isSome)] } := by
    intro R hR
    refine FnOk.run H.i23 H.mixed rfl rfl ?_
    refine fR rfl ?_
    refine lM rfl rfl rfl ?_
    refine fM rfl ?_
    refine rList l (fun i (_ : Unit) => { env := [(1, .t (.str n)), (2, .t (.str a)), (6, .ptr 0 0), (10, .t (.lst (l.map Dir.enc))), (11, .t (.int .i64 l.length)), (12, .t (.int .i64 i))], s := ⟨[(0, .cells [.t (.int .i64 0), .t (.int .i64 0), .t (.str []), .nils, .nils])], 1⟩ }) (fun r i _ => argD n a r = R) 1 () rfl hR rfl rfl rfl ?_ ?_
    · rintro _ hB
      have hB' : R = none := by rw [← hB]; rfl
      subst hB'
      refine fR rfl ?_
      refine Run.condF rfl rfl (by simp) ?_
      refine fR rfl ?_
      refine Run.fin rfl (EndOk.go ?_); exact .tup2 (.agg (.cons (.t rfl) (.cons (.t rfl) (.cons (.t rfl) (.cons (.nil rfl) (.cons (.nil rfl) .nil)))))) (.t rfl)
    · rintro i x r _ h1 hi hdr hB ih
      have hx := hd.all x (List.mem_of_getElem? h1)
      refine fR rfl ?_
      refine Run.condT rfl rfl (by simp; omega) ?_
      refine fR rfl ?_
      refine Mid.elemMap rfl rfl rfl h1 rfl rfl ?_
      refine fM rfl ?_
      refine Run.cond rfl rfl (fun hc => ?_) (fun hc => ?_)
      · have hc' : x.name = n := by simpa using hc
        rw [argD, if_pos hc'] at hB
        subst hB
        refine fR rfl ?_
        refine Mid.call (argV_ok H 56 x hx a (.inl rfl)) rfl rfl rfl rfl ?_
        refine fM rfl ?_
        refine Run.fin rfl (EndOk.go ?_); exact .tup2 (.le (.same rfl)) (.t rfl)
      · have hc' : ¬ x.name = n := by simpa using hc
        rw [argD, if_neg hc'] at hB
        refine fR rfl ?_
        refine aL rfl rfl rfl rfl rfl ?_
        refine fM rfl ?_
        exact rWeak 1 rfl (ih () hB) rfl rfl rfl
  exact hR _ rfl
end Go.GB.C23


/-
  F23J: chapter 23's functions: the program's check of directives.
-/
namespace Go.GB.C23
open Go.GB Go.GB.C11
set_option linter.unusedSimpArgs false
set_option linter.unusedVariables false
set_option maxRecDepth 100000
set_option maxHeartbeats 4000000
variable {P : Program}

end Go.GB.C23


/-
  F25A: moves: sets of fields that directives name; keys of types.
-/
namespace Go.GB.C23
open Go.GB Go.GB.C11
set_option linter.unusedSimpArgs false
set_option linter.unusedVariables false
set_option maxRecDepth 100000
set_option maxHeartbeats 4000000
structure Pr25 (P : Program) : Prop extends Pr23 P where
  i8 : fnInfo P 8 = some (n8, c8.bare, r8)
  i30 : fnInfo P 30 = some (n30, c30.bare, r30)
  i31 : fnInfo P 31 = some (n31, c31.bare, r31)
  i32 : fnInfo P 32 = some (n32, c32.bare, r32)
  i33 : fnInfo P 33 = some (n33, c33.bare, r33)
  i34 : fnInfo P 34 = some (n34, c34.bare, r34)
  i35 : fnInfo P 35 = some (n35, c35.bare, r35)
  i38 : fnInfo P 38 = some (n38, c38.bare, r38)
  i40 : fnInfo P 40 = some (n40, c40.bare, r40)
  i58 : fnInfo P 58 = some (n58, c58.bare, r58)
  i60 : fnInfo P 60 = some (n60, c60.bare, r60)
  i61 : fnInfo P 61 = some (n61, c61.bare, r61)
  i62 : fnInfo P 62 = some (n62, c62.bare, r62)
  i63 : fnInfo P 63 = some (n63, c63.bare, r63)
  i64 : fnInfo P 64 = some (n64, c64.bare, r64)
  i68 : fnInfo P 68 = some (n68, c68.bare, r68)
  i81 : fnInfo P 81 = some (n81, c81.bare, r81)
  i82 : fnInfo P 82 = some (n82, c82.bare, r82)
  i83 : fnInfo P 83 = some (n83, c83.bare, r83)
  i84 : fnInfo P 84 = some (n84, c84.bare, r84)
  i85 : fnInfo P 85 = some (n85, c85.bare, r85)
  i86 : fnInfo P 86 = some (n86, c86.bare, r86)
  i87 : fnInfo P 87 = some (n87, c87.bare, r87)
  i106 : fnInfo P 106 = some (n106, c106.bare, r106)
  i108 : fnInfo P 108 = some (n108, c108.bare, r108)
  i109 : fnInfo P 109 = some (n109, c109.bare, r109)
  i110 : fnInfo P 110 = some (n110, c110.bare, r110)
  i111 : fnInfo P 111 = some (n111, c111.bare, r111)
  i112 : fnInfo P 112 = some (n112, c112.bare, r112)
  i127 : fnInfo P 127 = some (n127, c127.bare, r127)
  i128 : fnInfo P 128 = some (n128, c128.bare, r128)
variable {P : Program}

/-- one element of a list, as a list -/
theorem take_drop_one {α : Type} {l : List α} {i : Nat} {a : α} (h : l[i]? = some a) : (l.take (i + 1)).drop i = [a] := by
  rw [List.take_add_one, h, List.drop_append_of_le_length (by rw [List.length_take]; have := (List.getElem?_eq_some_iff.1 h).1; omega)]
  simp
theorem lstOne {n m : Nat} {R : St → Prop} {draw : Bool} {all : List AO} {after : List (List Nat)} {live : List Nat} {k : List It} {b : Nat} {fl : List (Bool × Bool)} {ops : List AO} {st st' : St} {d : Option Nat}
    {α : Type} {f : α → List T} {l : List α} {sz : Nat} {x lo hi : Ar} {v : V} {kd kd' : IntKind} {i : Nat} {j : Int} {a : α} (hx : rd true st x = (v, [])) (hv : v.cell1 = some (.lst (l.map f))) (hlo : rd true st lo = (.t (.int kd i), [])) (hhi : rd true st hi = (.t (.int kd' j), [])) (hj : j = ((i + 1 : Nat) : Int)) (ha : l[i]? = some a) (hsz : ∀ x, (f x).length = sz) (hs : stepV st d (.t (.lst ([a].map f))) some = some st')
    (h' : Mid P n m R draw all after live k b ((false, false) :: fl) ops st') : Mid P n m R draw all after live k b fl (⟨d, none, .sll sz x (some lo) (some hi)⟩ :: ops) st := by
  have hi' := (List.getElem?_eq_some_iff.1 ha).1
  have e : ((l.map f).take (i + 1)).drop i = [a].map f := by rw [← List.map_take, ← List.map_drop, take_drop_one ha]
  subst hj
  exact Mid.val (v := .t (.lst ([a].map f))) (ps := [true, true, true, true]) (by simp only [evalE, hx, hv, bnd, hlo, hhi]; rw [show ((i : Nat) : Int).toNat = i from Int.toNat_natCast i, show ((i + 1 : Nat) : Int).toNat = i + 1 from Int.toNat_natCast _, e]; simp [allLen, hsz]; omega) rfl ⟨rfl, rfl, rfl, rfl, trivial⟩ hs h'

/- what is said of the texts of values -/
theorem argF_tx {a : Str} {v : Val} : ∀ {l : List Arg}, (∀ x, x ∈ l → x.val.text.length ≤ 1048576) → argF a l = some v → v.text.length ≤ 1048576
  | [], _, h => by cases h
  | x :: r, ho, h => by
    rw [argF] at h
    split at h
    · rw [← Option.some.inj h]; exact ho x (List.mem_cons_self ..)
    · exact argF_tx (fun y hy => ho y (List.mem_cons_of_mem _ hy)) h
theorem argD_tx {n a : Str} {v : Val} : ∀ {l : List Dir}, (∀ d, d ∈ l → DOk d) → argD n a l = some v → v.text.length ≤ 1048576
  | [], _, h => by cases h
  | x :: r, ho, h => by
    rw [argD] at h
    split at h
    · exact argF_tx (fun y hy => ((ho x (List.mem_cons_self ..)).an y hy).2.2) h
    · exact argD_tx (fun y hy => ho y (List.mem_cons_of_mem _ hy)) h
/-- directives of a document of bounded bulk -/
structure DK (ds : List Dir) : Prop where
  l : ds.length ≤ 1048576
  d : ∀ d, d ∈ ds → DOk d
theorem DK.aok {l : List Dir} (h : DK l) : AOk l := ⟨by have := h.l; omega, fun d hd => (h.d d hd).l⟩
theorem DK.len {l : List Dir} (h : DK l) : l.length ≤ 140737488355328 := by have := h.l; omega
/-- the set of fields of the first use of a directive -/
def setM (l : List Dir) (n : Str) : List Str := (setF ((argD n ([102, 105, 101, 108, 100, 115] : Str) l).getD Val.zero).text).1
theorem setF_bad {s : Str} (h : ¬ (setF s).2 = 0) : (setF s).1 = [] := by
  unfold setF setL at h ⊢
  split
  · rfl
  · rename_i h1
    rw [if_neg h1] at h
    split
    · rfl
    · rename_i h2
      rw [if_neg h2] at h
      split
      · rfl
      · rename_i h3
        rw [if_neg h3] at h
        exact absurd rfl h
theorem setF_le (s : Str) : (setF s).1.length ≤ 4 := by
  unfold setF setL
  split
  · simp
  · split
    · simp
    · split
      · simp
      · simp; omega
theorem setM_le (l : List Dir) (n : Str) : (setM l n).length ≤ 4 := setF_le _
theorem set_ok (H : Pr25 P) (l : List Dir) (hd : DK l) (n : Str) : FnOk P 64 [.t (.lst (l.map Dir.enc)), .t (.str n)] ⟨[], 0⟩ { v := .t (.lst ((setM l n).map sE)) } := by
  have htx : ((argD n ([102, 105, 101, 108, 100, 115] : Str) l).getD Val.zero).text.length ≤ 1048576 := by
    cases hq : argD n ([102, 105, 101, 108, 100, 115] : Str) l with
    | none => exact Nat.zero_le _
    | some v => exact argD_tx hd.d hq
  have hcn : ((argD n ([102, 105, 101, 108, 100, 115] : Str) l).getD Val.zero).text.count 32 ≤ ((argD n ([102, 105, 101, 108, 100, 115] : Str) l).getD Val.zero).text.length := List.count_le_length
  have h1 := arg_ok H.toPr23 l hd.aok n ([102, 105, 101, 108, 100, 115] : Str)
  unfold setM
  generalize (argD n ([102, 105, 101, 108, 100, 115] : Str) l).getD Val.zero = v at h1 htx hcn
  generalize (argD n ([102, 105, 101, 108, 100, 115] : Str) l).isSome = b at h1
  have h2 := dSet_ok H.toPr23 v.text (by omega) (by omega)
  have h3 := fun h => setF_bad (s := v.text) h
  generalize setF v.text = R at h2 h3
  refine FnOk.run H.i64 H.mixed rfl rfl ?_
  refine fR rfl ?_
  refine Mid.call (h1) rfl rfl rfl rfl ?_
  refine fM rfl ?_
  refine Mid.call (h2) rfl rfl rfl rfl ?_
  refine fM rfl ?_
  refine Run.cond rfl rfl (fun h => ?_) (fun h => ?_)
  · have h' : ¬ R.2 = 0 := by simpa using h
    refine fR rfl ?_
    rw [h3 h']
    refine Run.fin rfl (EndOk.go ?_); exact .nil rfl
  · refine fR rfl ?_
    refine Run.fin rfl (EndOk.go ?_); exact .t rfl

/- keys -/
def lE (k : List Str) : List T := [.lst (k.map sE)]
def keysD : List Dir → List (List Str)
  | [] => []
  | d :: r => (if d.name = ([107, 101, 121] : Str) then [setM [d] ([107, 101, 121] : Str)] else []) ++ keysD r
theorem keysD_len : ∀ l : List Dir, (keysD l).length ≤ l.length
  | [] => by simp [keysD]
  | d :: r => by
    have := keysD_len r
    rw [keysD, List.length_append, List.length_cons]
    split <;> simp <;> omega
theorem keysD_mem {k : List Str} : ∀ {l : List Dir}, k ∈ keysD l → k.length ≤ 4
  | [], h => by cases h
  | d :: r, h => by
    rw [keysD] at h
    rcases List.mem_append.1 h with h | h
    · split at h
      · simp at h; rw [h]; exact setM_le _ _
      · cases h
    · exact keysD_mem h
theorem keysOf_ok (H : Pr25 P) (t : Def) (hd : DK t.dirs) : FnOk P 62 [t.v] ⟨[], 0⟩ { v := .t (.lst ((keysD t.dirs).map lE)) } := by
  have hl := hd.l
  generalize hR : keysD t.dirs = R
  refine FnOk.run H.i62 H.mixed rfl rfl ?_
  refine fR rfl ?_
  refine lM rfl rfl rfl ?_
  refine fM rfl ?_
  refine rList t.dirs (fun i (B : List (List Str)) => { env := [(1, .ptr 0 0), (3, .own 1 1 (B.map lE)), (7, .t (.lst (t.dirs.map Dir.enc))), (8, .t (.int .i64 t.dirs.length)), (9, .t (.int .i64 i))], s := ⟨[(0, (.cells [.t (.int .i64 t.kind), .t (.str t.name), .t (.lst (t.implements.map sE)), .t (.lst (t.dirs.map Dir.enc)), .t (.lst (t.fields.map Field.enc)), .t (.lst (t.members.map Member.enc)), .t (.lst (t.inputs.map Input.enc))])), (1, .arr B.length)], 2⟩ }) (fun r i B => B.length ≤ i ∧ B ++ keysD r = R) 1 [] rfl ⟨by simp, hR⟩ rfl rfl rfl ?_ ?_
  · rintro B ⟨_, hB⟩
    have hB' : B = R := by rw [← hB]; simp [keysD]
    subst hB'
    refine fR rfl ?_
    refine Run.condF rfl rfl (by simp) ?_
    refine fR rfl ?_
    refine Run.fin rfl (EndOk.go ?_); exact .own rfl
  · rintro i d r B h1 hi hdr ⟨hBl, hB⟩ ih
    have hBl' : B.length ≤ i := hBl
    have hdd := hd.d d (List.mem_of_getElem? h1)
    have hB2 : B ++ ((if d.name = ([107, 101, 121] : Str) then [setM [d] ([107, 101, 121] : Str)] else []) ++ keysD r) = R := hB
    refine fR rfl ?_
    refine Run.condT rfl rfl (by simp; omega) ?_
    refine fR rfl ?_
    refine Mid.elemMap rfl rfl rfl h1 rfl rfl ?_
    refine fM rfl ?_
    refine Run.cond rfl rfl (fun hk => ?_) (fun hk => ?_)
    · have hk' : d.name = ([107, 101, 121] : Str) := by simpa using hk
      rw [if_pos hk'] at hB2
      refine fR rfl ?_
      refine aL rfl rfl rfl rfl rfl ?_
      refine lstOne (f := Dir.enc) rfl rfl rfl rfl (by simp) h1 (fun _ => rfl) rfl ?_
      skip
      refine Mid.call (set_ok H [d] ⟨by simp, by simpa using hdd⟩ ([107, 101, 121] : Str)) rfl rfl rfl rfl ?_
      refine fM rfl ?_
      refine apM lE B [setM [d] ([107, 101, 121] : Str)] rfl rfl rfl rfl rfl ?_ (h1 := by first | omega | (simp; omega) | (simp; done)) (h2 := by first | omega | (simp; omega) | (simp; done))
      refine fM rfl ?_
      refine aL rfl rfl rfl rfl rfl ?_
      refine fM rfl ?_
      exact rWeak 2 rfl (ih (B ++ [setM [d] ([107, 101, 121] : Str)]) ⟨by simp; omega, by rw [← hB2]; simp⟩) rfl rfl rfl
    · have hk' : ¬ d.name = ([107, 101, 121] : Str) := by simpa using hk
      rw [if_neg hk', List.nil_append] at hB2
      refine fR rfl ?_
      refine aL rfl rfl rfl rfl rfl ?_
      refine fM rfl ?_
      exact rWeak 2 rfl (ih B ⟨by omega, hB2⟩) rfl rfl rfl

/- a field of a key -/
def isKeyM (l : List Dir) (f : Str) : Bool := (keysD l).any fun k => decide (f ∈ k)
def idxG {α : Type} (p : α → Bool) : Int → List α → Int
  | _, [] => -1
  | i, b :: l => if p b = true then i else idxG p (i + 1) l
theorem idxG_ge {α : Type} (p : α → Bool) : ∀ (l : List α) (i : Int), 0 ≤ i → decide (idxG p i l ≥ 0) = l.any p
  | [], i, h => by simp [idxG]
  | b :: l, i, h => by
    have ih := idxG_ge p l (i + 1) (by omega)
    by_cases hp : p b = true
    · simp [idxG, hp, h]
    · have e : idxG p i (b :: l) = idxG p (i + 1) l := by simp only [idxG]; rw [if_neg hp]
      rw [e, ih]; simp [hp]
theorem isKey1_ok (H : Pr25 P) (k : List Str) (hk : k.length ≤ 4) (f : Str) : FnOk P 112 [.t (.lst (k.map sE)), .ptr 0 0] ⟨[(0, .cells [.t (.str f)])], 1⟩ { v := .t (.bool (decide (f ∈ k))), rd := true } := by
  refine FnOk.run H.i112 H.mixed rfl rfl ?_
  refine fR rfl ?_
  refine Mid.call (contains_ok H.toPr k (by omega) f) rfl rfl rfl rfl ?_
  refine fM rfl ?_
  refine Run.fin rfl (EndOk.sameX rfl rfl rfl (by first | exact rfl | exact nSto_bd | exact tSto_bd) (.t (rfl)))
theorem indexFK_ok (H : Pr25 P) (l : List (List Str)) (hl : l.length ≤ 140737488355328) (hk : ∀ k, k ∈ l → k.length ≤ 4) (f : Str) : FnOk P 128 [.t (.lst (l.map lE)), .fn 112 [(0, 0)]] ⟨[(0, .cells [.t (.str f)])], 1⟩ { v := .t (.int .i64 (idxG (fun k => decide (f ∈ k)) 0 l)), rd := true } := by
  refine FnOk.run H.i128 H.mixed rfl rfl ?_
  refine fR rfl ?_
  refine lM rfl rfl rfl ?_
  refine fM rfl ?_
  refine rList l (fun i (_ : Unit) => { env := [(0, .t (.lst (l.map lE))), (1, .fn 112 [(0, 0)]), (7, .t (.int .i64 l.length)), (8, .t (.int .i64 i))], s := ⟨[(0, .cells [.t (.str f)])], 1⟩ }) (fun r i _ => idxG (fun k => decide (f ∈ k)) 0 l = idxG (fun k => decide (f ∈ k)) i r) 1 () rfl rfl rfl rfl rfl ?_ ?_
  · intro _ hinv
    refine fR rfl ?_
    refine Run.condF rfl rfl (by simp) ?_
    refine fR rfl ?_
    refine Run.fin rfl (EndOk.sameX rfl rfl rfl (by first | exact rfl | exact nSto_bd | exact tSto_bd) (.t ((by rw [hinv]; rfl))))
  · intro i x r _ h1 hi hd hinv ih
    refine fR rfl ?_
    refine Run.condT rfl rfl (by simp; omega) ?_
    refine fR rfl ?_
    refine Mid.elemMap rfl rfl rfl h1 rfl rfl ?_
    refine fM rfl ?_
    refine Mid.callvS rfl (isKey1_ok H x (hk x (List.mem_of_getElem? h1)) f) rfl rfl rfl rfl ?_
    refine fM rfl ?_
    refine Run.cond rfl rfl (fun hc => ?_) (fun hc => ?_)
    · refine fR rfl ?_
      refine Run.fin rfl (EndOk.sameX rfl rfl rfl (by first | exact rfl | exact nSto_bd | exact tSto_bd) (.t ((by rw [hinv]; simp only [idxG]; rw [if_pos hc]))))
    · refine fR rfl ?_
      refine aL rfl rfl rfl rfl rfl ?_
      refine fM rfl ?_
      have h' : ¬ decide (f ∈ x) = true := by rw [hc]; simp
      exact rWeak 1 rfl (ih () (by rw [hinv]; simp only [idxG]; rw [if_neg h']; rfl)) rfl rfl rfl
theorem containsFK_ok (H : Pr25 P) (l : List (List Str)) (hl : l.length ≤ 140737488355328) (hk : ∀ k, k ∈ l → k.length ≤ 4) (f : Str) : FnOk P 111 [.t (.lst (l.map lE)), .fn 112 [(0, 0)]] ⟨[(0, .cells [.t (.str f)])], 1⟩ { v := .t (.bool (l.any fun k => decide (f ∈ k))), rd := true } := by
  refine FnOk.run H.i111 H.mixed rfl rfl ?_
  refine fR rfl ?_
  refine Mid.callS (indexFK_ok H l hl hk f) rfl rfl (by first | exact rfl | exact nSto_bd | exact tSto_bd) rfl ?_
  refine fM rfl ?_
  refine Run.fin rfl (EndOk.sameX rfl rfl rfl (by first | exact rfl | exact nSto_bd | exact tSto_bd) (.t ((by rw [← idxG_ge (fun k => decide (f ∈ k)) l 0 (by omega)]))))
theorem isKey_ok (H : Pr25 P) (t : Def) (hd : DK t.dirs) (f : Str) : FnOk P 87 [t.v, .t (.str f)] ⟨[], 0⟩ { v := .t (.bool (isKeyM t.dirs f)) } := by
  have hl := hd.l
  have hkl := keysD_len t.dirs
  refine FnOk.run H.i87 H.mixed rfl rfl ?_
  refine fR rfl ?_
  refine Mid.call (keysOf_ok H t hd) rfl rfl rfl rfl ?_
  refine fM rfl ?_
  refine Mid.callRd [1] (containsFK_ok H (keysD t.dirs) (by omega) (fun k hk => keysD_mem hk) f) rfl rfl rfl rfl (by simp [stoBd]; simp [AObj.bd, V.bds, V.bd]) (by repeat' (first | exact trivial | exact rfl | refine And.intro ?_ ?_ | exact (congrArg some (AObj.ren_mE _ _ _ _ _ _)).symm | exact (congrArg some (AObj.ren_cE _ _ _)).symm)) rfl ?_
  refine fM rfl ?_
  refine Run.fin rfl (EndOk.go ?_); exact .t rfl
end Go.GB.C23


/-
  F25B: moves: leaf types, fields that graphs resolve, fields that are external.
-/
namespace Go.GB.C23
open Go.GB Go.GB.C11
set_option linter.unusedSimpArgs false
set_option linter.unusedVariables false
set_option maxRecDepth 100000
set_option maxHeartbeats 4000000
variable {P : Program}

structure Graph where
  name : Str
  doc : List Def
def Graph.enc (g : Graph) : List T := [.str g.name, .lst (g.doc.map Def.enc)]
def Graph.v (g : Graph) : V := .agg [.t (.str g.name), .t (.lst (g.doc.map Def.enc))]

structure FK (x : Field) : Prop where
  d : DK x.dirs
  al : x.args.length ≤ 140737488355328
  w : x.ty.wraps.length ≤ 140737488355328
  nm : x.name.length ≤ 140737488355328
structure TK (t : Def) : Prop where
  d : DK t.dirs
  fl : t.fields.length ≤ 1048576
  f : ∀ x, x ∈ t.fields → FK x
  nm : t.name.length ≤ 140737488355328
structure GK (ds : List Def) : Prop where
  ok : DocOk ds
  l : ds.length ≤ 1048576
  t : ∀ t, t ∈ ds → TK t
theorem DK.nil : DK [] := ⟨by decide, by simp⟩
theorem FK.zero : FK Field.zero := ⟨DK.nil, by decide, by decide, by decide⟩
theorem TK.zero : TK Def.zero := ⟨DK.nil, by decide, by simp [Def.zero], by decide⟩
theorem GK.find {ds : List Def} (h : GK ds) (n : Str) : TK ((findDef n ds).getD Def.zero) := by
  cases hf : findDef n ds with
  | none => exact TK.zero
  | some t => exact h.t t (findDef_mem hf)
theorem TK.field {t : Def} (h : TK t) (n : Str) : FK ((findField n t.fields).getD Field.zero) := by
  cases hf : findField n t.fields with
  | none => exact FK.zero
  | some t => exact h.f t (findField_mem hf)
theorem GK.len {ds : List Def} (h : GK ds) : ds.length ≤ 140737488355328 := h.ok.l

def kindM (ds : List Def) (n : Str) : Int := ((findDef n ds).getD Def.zero).kind
def leafM (ds : List Def) (n : Str) : Bool := scalF n || kindM ds n == 4
theorem kind25_ok (H : Pr25 P) (ds : List Def) (gk : GK ds) (n : Str) : FnOk P 106 [docV ds, .t (.str n)] ⟨[], 0⟩ { v := .t (.int .i64 (kindM ds n)) } := by
  refine FnOk.run H.i106 H.mixed rfl rfl ?_
  refine fR rfl ?_
  refine Mid.call (find_ok H.toPr ds gk.len n) rfl rfl rfl rfl ?_
  refine fM rfl ?_
  refine Run.fin rfl (EndOk.go ?_); exact .t rfl
theorem leaf25_ok (H : Pr25 P) (ds : List Def) (gk : GK ds) (n : Str) : FnOk P 81 [docV ds, .t (.str n)] ⟨[], 0⟩ { v := .t (.bool (leafM ds n)) } := by
  refine FnOk.run H.i81 H.mixed rfl rfl ?_
  refine fR rfl ?_
  refine Mid.call (scalar_ok H.toPr n) rfl rfl rfl rfl ?_
  refine fM rfl ?_
  refine caG rfl rfl (fun hg => ⟨_, rfl, kind25_ok H ds gk n, rfl⟩) rfl rfl ?_
  refine fM rfl ?_
  refine Run.fin rfl (EndOk.go ?_); exact .t rfl

def resM (ds : List Def) (n f : Str) : Bool :=
  (((findDef n ds).isSome && (findField f ((findDef n ds).getD Def.zero).fields).isSome) && ((findDef n ds).getD Def.zero).kind == 1) && !hasD ([101, 120, 116, 101, 114, 110, 97, 108] : Str) ((findField f ((findDef n ds).getD Def.zero).fields).getD Field.zero).dirs
theorem resolves_ok (H : Pr25 P) (g : Graph) (gk : GK g.doc) (n f : Str) : FnOk P 108 [g.v, .t (.str n), .t (.str f)] ⟨[], 0⟩ { v := .t (.bool (resM g.doc n f)) } := by
  have hT := gk.find n
  have hF := hT.field f
  have hfl := hT.fl
  refine FnOk.run H.i108 H.mixed rfl rfl ?_
  refine fR rfl ?_
  refine Mid.call (find_ok H.toPr g.doc gk.len n) rfl rfl rfl rfl ?_
  refine fM rfl ?_
  refine Mid.call (fieldOf_ok H.toPr ((findDef n g.doc).getD Def.zero) (by omega) f) rfl rfl rfl rfl ?_
  refine fM rfl ?_
  refine caG rfl rfl (fun hg => ⟨_, rfl, hasD_ok H.toPr23 25 ((findField f ((findDef n g.doc).getD Def.zero).fields).getD Field.zero).dirs hF.d.len ([101, 120, 116, 101, 114, 110, 97, 108] : Str) (.inl rfl), rfl⟩) rfl rfl ?_
  refine fM rfl ?_
  refine Run.fin rfl (EndOk.go ?_); exact .t rfl

def othM (a : Nat) (n f : Str) : Nat → List Graph → Bool
  | _, [] => false
  | i, g :: r => (((i : Int) != (a : Int)) && resM g.doc n f) || othM a n f (i + 1) r
theorem others_ok (H : Pr25 P) (gs : List Graph) (hl : gs.length ≤ 140737488355328) (gk : ∀ g, g ∈ gs → GK g.doc) (out : List Fault) (a : Nat) (n f : Str) : FnOk P 84 [.ptr 0 0, .t (.int .i64 a), .t (.str n), .t (.str f)] ⟨[(0, .cells [.t (.lst (gs.map Graph.enc)), .own 1 2 (out.map Fault.enc)]), (1, .arr out.length)], 2⟩ { v := .t (.bool (othM a n f 0 gs)), rd := true } := by
  refine FnOk.run H.i84 H.mixed rfl rfl ?_
  refine fR rfl ?_
  refine lM rfl rfl rfl ?_
  refine fM rfl ?_
  refine rList gs (fun i (_ : Unit) => { env := [(1, .t (.int .i64 a)), (2, .t (.str n)), (3, .t (.str f)), (14, .t (.lst (gs.map Graph.enc))), (15, .t (.int .i64 gs.length)), (16, .t (.int .i64 i))], s := ⟨[(0, .cells [.t (.lst (gs.map Graph.enc)), .own 1 2 (out.map Fault.enc)]), (1, .arr out.length)], 2⟩ }) (fun r i _ => othM a n f 0 gs = othM a n f i r) 2 () rfl rfl rfl rfl rfl ?_ ?_
  · intro _ hinv
    refine fR rfl ?_
    refine Run.condF rfl rfl (by simp) ?_
    refine fR rfl ?_
    refine Run.fin rfl (EndOk.sameX rfl rfl rfl (by first | exact rfl | exact nSto_bd | exact tSto_bd) (.t ((by rw [hinv]; rfl))))
  · intro i g r _ h1 hi hd hinv ih
    have hgg := gk g (List.mem_of_getElem? h1)
    refine fR rfl ?_
    refine Run.condT rfl rfl (by simp; omega) ?_
    refine fR rfl ?_
    refine Mid.elemMap rfl rfl rfl h1 rfl rfl ?_
    refine fM rfl ?_
    refine caG rfl rfl (fun hg => ⟨_, rfl, resolves_ok H g hgg n f, rfl⟩) rfl rfl ?_
    refine fM rfl ?_
    refine Run.cond rfl rfl (fun hc => ?_) (fun hc => ?_)
    · have hc' : (((i : Int) != (a : Int)) && resM g.doc n f) = true := hc
      refine fR rfl ?_
      refine Run.fin rfl (EndOk.sameX rfl rfl rfl (by first | exact rfl | exact nSto_bd | exact tSto_bd) (.t ((by rw [hinv, othM, hc']; rfl))))
    · have hc' : (((i : Int) != (a : Int)) && resM g.doc n f) = false := hc
      refine fR rfl ?_
      refine aL rfl rfl rfl rfl rfl ?_
      refine fM rfl ?_
      exact rWeak 2 rfl (ih () (by rw [hinv, othM, hc']; rfl)) rfl rfl rfl

/-- a name that is not an external field without arguments, of a leaf type -/
def outB (ds : List Def) (t : Def) (n : Str) : Bool :=
  ((!(findField n t.fields).isSome || !hasD ([101, 120, 116, 101, 114, 110, 97, 108] : Str) ((findField n t.fields).getD Field.zero).dirs) || decide ((((findField n t.fields).getD Field.zero).args.length : Int) > 0)) || !leafM ds ((findField n t.fields).getD Field.zero).ty.name
def outM (ds : List Def) (t : Def) (l : List Str) : Bool := !l.any (outB ds t) && decide ((l.length : Int) > 0)
theorem outside_ok (H : Pr25 P) (g : Graph) (gk : GK g.doc) (t : Def) (ht : TK t) (l : List Str) (hl : l.length ≤ 140737488355328) : FnOk P 86 [g.v, t.v, .t (.lst (l.map sE))] ⟨[], 0⟩ { v := .t (.bool (outM g.doc t l)) } := by
  have hfl := ht.fl
  refine FnOk.run H.i86 H.mixed rfl rfl ?_
  refine fR rfl ?_
  refine lM rfl rfl rfl ?_
  refine fM rfl ?_
  refine rList l (fun i (_ : Unit) => { env := [(2, .t (.lst (l.map sE))), (3, .ptr 0 0), (4, .ptr 1 0), (11, .t (.lst (l.map sE))), (12, .t (.int .i64 l.length)), (13, .t (.int .i64 i))], s := ⟨[(0, .cells [.t (.str g.name), .t (.lst (g.doc.map Def.enc))]), (1, (.cells [.t (.int .i64 t.kind), .t (.str t.name), .t (.lst (t.implements.map sE)), .t (.lst (t.dirs.map Dir.enc)), .t (.lst (t.fields.map Field.enc)), .t (.lst (t.members.map Member.enc)), .t (.lst (t.inputs.map Input.enc))]))], 2⟩ }) (fun r i _ => l.any (outB g.doc t) = r.any (outB g.doc t)) 2 () rfl rfl rfl rfl rfl ?_ ?_
  · intro _ hinv
    refine fR rfl ?_
    refine Run.condF rfl rfl (by simp) ?_
    refine fR rfl ?_
    refine lM rfl rfl rfl ?_
    refine fM rfl ?_
    refine Run.fin rfl (EndOk.go ?_); exact .t (by unfold outM; rw [hinv]; rfl)
  · intro i n r _ h1 hi hd hinv ih
    have hF := ht.field n
    have hal := hF.al
    refine fR rfl ?_
    refine Run.condT rfl rfl (by simp; omega) ?_
    refine fR rfl ?_
    refine Mid.elemMap rfl rfl rfl h1 rfl rfl ?_
    refine fM rfl ?_
    refine Mid.call (fieldOf_ok H.toPr t (by omega) n) rfl rfl rfl rfl ?_
    refine fM rfl ?_
    refine caG rfl rfl (fun hg => ⟨_, rfl, hasD_ok H.toPr23 25 ((findField n t.fields).getD Field.zero).dirs hF.d.len ([101, 120, 116, 101, 114, 110, 97, 108] : Str) (.inl rfl), rfl⟩) rfl rfl ?_
    refine fM rfl ?_
    refine lMG rfl rfl rfl rfl ?_
    refine fM rfl ?_
    refine caG rfl rfl (fun hg => ⟨_, rfl, leaf25_ok H g.doc gk ((findField n t.fields).getD Field.zero).ty.name, rfl⟩) rfl rfl ?_
    refine fM rfl ?_
    refine Run.cond rfl rfl (fun hc => ?_) (fun hc => ?_)
    · have hc' : outB g.doc t n = true := hc
      refine fR rfl ?_
      refine Run.fin rfl (EndOk.go ?_); exact .t (by unfold outM; rw [hinv, List.any_cons, hc']; rfl)
    · have hc' : outB g.doc t n = false := hc
      refine fR rfl ?_
      refine aL rfl rfl rfl rfl rfl ?_
      refine fM rfl ?_
      exact rWeak 2 rfl (ih () (by rw [hinv, List.any_cons, hc']; rfl)) rfl rfl rfl
end Go.GB.C23


/-
  F25C: moves: fields that are mentioned in a graph, and fields that graphs lean on.
-/
namespace Go.GB.C23
open Go.GB Go.GB.C11
set_option linter.unusedSimpArgs false
set_option linter.unusedVariables false
set_option maxRecDepth 100000
set_option maxHeartbeats 4000000
variable {P : Program}

/-- a field that another one requires -/
def reqM (f : Str) (l : List Field) : Bool := l.any fun x => decide (f ∈ setM x.dirs ([114, 101, 113, 117, 105, 114, 101, 115] : Str))
theorem leant1_ok (H : Pr25 P) (x : Field) (hx : FK x) (f : Str) : FnOk P 110 [x.v, .ptr 0 0] ⟨[(0, .cells [.t (.str f)])], 1⟩ { v := .t (.bool (decide (f ∈ setM x.dirs ([114, 101, 113, 117, 105, 114, 101, 115] : Str)))), rd := true } := by
  have hs := setM_le x.dirs ([114, 101, 113, 117, 105, 114, 101, 115] : Str)
  refine FnOk.run H.i110 H.mixed rfl rfl ?_
  refine fR rfl ?_
  refine Mid.call (set_ok H x.dirs hx.d ([114, 101, 113, 117, 105, 114, 101, 115] : Str)) rfl rfl rfl rfl ?_
  refine fM rfl ?_
  refine Mid.call (contains_ok H.toPr (setM x.dirs ([114, 101, 113, 117, 105, 114, 101, 115] : Str)) (by omega) f) rfl rfl rfl rfl ?_
  refine fM rfl ?_
  refine Run.fin rfl (EndOk.sameX rfl rfl rfl (by first | exact rfl | exact nSto_bd | exact tSto_bd) (.t (rfl)))
theorem indexFL_ok (H : Pr25 P) (l : List Field) (hl : l.length ≤ 140737488355328) (hx : ∀ x, x ∈ l → FK x) (f : Str) : FnOk P 127 [.t (.lst (l.map Field.enc)), .fn 110 [(0, 0)]] ⟨[(0, .cells [.t (.str f)])], 1⟩ { v := .t (.int .i64 (idxG (fun x => decide (f ∈ setM x.dirs ([114, 101, 113, 117, 105, 114, 101, 115] : Str))) 0 l)), rd := true } := by
  refine FnOk.run H.i127 H.mixed rfl rfl ?_
  refine fR rfl ?_
  refine lM rfl rfl rfl ?_
  refine fM rfl ?_
  refine rList l (fun i (_ : Unit) => { env := [(0, .t (.lst (l.map Field.enc))), (1, .fn 110 [(0, 0)]), (7, .t (.int .i64 l.length)), (8, .t (.int .i64 i))], s := ⟨[(0, .cells [.t (.str f)])], 1⟩ }) (fun r i _ => idxG (fun x => decide (f ∈ setM x.dirs ([114, 101, 113, 117, 105, 114, 101, 115] : Str))) 0 l = idxG (fun x => decide (f ∈ setM x.dirs ([114, 101, 113, 117, 105, 114, 101, 115] : Str))) i r) 1 () rfl rfl rfl rfl rfl ?_ ?_
  · intro _ hinv
    refine fR rfl ?_
    refine Run.condF rfl rfl (by simp) ?_
    refine fR rfl ?_
    refine Run.fin rfl (EndOk.sameX rfl rfl rfl (by first | exact rfl | exact nSto_bd | exact tSto_bd) (.t ((by rw [hinv]; rfl))))
  · intro i x r _ h1 hi hd hinv ih
    refine fR rfl ?_
    refine Run.condT rfl rfl (by simp; omega) ?_
    refine fR rfl ?_
    refine Mid.elemMap rfl rfl rfl h1 rfl rfl ?_
    refine fM rfl ?_
    refine Mid.callvS rfl (leant1_ok H x (hx x (List.mem_of_getElem? h1)) f) rfl rfl rfl rfl ?_
    refine fM rfl ?_
    refine Run.cond rfl rfl (fun hc => ?_) (fun hc => ?_)
    · refine fR rfl ?_
      refine Run.fin rfl (EndOk.sameX rfl rfl rfl (by first | exact rfl | exact nSto_bd | exact tSto_bd) (.t ((by rw [hinv]; simp only [idxG]; rw [if_pos hc]))))
    · refine fR rfl ?_
      refine aL rfl rfl rfl rfl rfl ?_
      refine fM rfl ?_
      have h' : ¬ decide (f ∈ setM x.dirs ([114, 101, 113, 117, 105, 114, 101, 115] : Str)) = true := by rw [hc]; simp
      exact rWeak 1 rfl (ih () (by rw [hinv]; simp only [idxG]; rw [if_neg h']; rfl)) rfl rfl rfl
theorem containsFL_ok (H : Pr25 P) (l : List Field) (hl : l.length ≤ 140737488355328) (hx : ∀ x, x ∈ l → FK x) (f : Str) : FnOk P 109 [.t (.lst (l.map Field.enc)), .fn 110 [(0, 0)]] ⟨[(0, .cells [.t (.str f)])], 1⟩ { v := .t (.bool (reqM f l)), rd := true } := by
  refine FnOk.run H.i109 H.mixed rfl rfl ?_
  refine fR rfl ?_
  refine Mid.callS (indexFL_ok H l hl hx f) rfl rfl (by first | exact rfl | exact nSto_bd | exact tSto_bd) rfl ?_
  refine fM rfl ?_
  refine Run.fin rfl (EndOk.sameX rfl rfl rfl (by first | exact rfl | exact nSto_bd | exact tSto_bd) (.t ((by unfold reqM; rw [← idxG_ge (fun x => decide (f ∈ setM x.dirs ([114, 101, 113, 117, 105, 114, 101, 115] : Str))) l 0 (by omega)]))))

/-- does a graph lean on a field? -/
def leaG (n f : Str) (g : Graph) : Bool := !(((findDef n g.doc).getD Def.zero).kind != 1) && (isKeyM ((findDef n g.doc).getD Def.zero).dirs f || reqM f ((findDef n g.doc).getD Def.zero).fields)
theorem leant_ok (H : Pr25 P) (gs : List Graph) (hl : gs.length ≤ 140737488355328) (gk : ∀ g, g ∈ gs → GK g.doc) (out : List Fault) (n f : Str) : FnOk P 85 [.ptr 0 0, .t (.str n), .t (.str f)] ⟨[(0, .cells [.t (.lst (gs.map Graph.enc)), .own 1 2 (out.map Fault.enc)]), (1, .arr out.length)], 2⟩ { v := .t (.bool (gs.any (leaG n f))), rd := true } := by
  refine FnOk.run H.i85 H.mixed rfl rfl ?_
  refine fR rfl ?_
  refine lM rfl rfl rfl ?_
  refine fM rfl ?_
  refine rList gs (fun i (_ : Unit) => { env := [(1, .t (.str n)), (5, .ptr 2 0), (14, .t (.lst (gs.map Graph.enc))), (15, .t (.int .i64 gs.length)), (16, .t (.int .i64 i))], s := ⟨[(0, .cells [.t (.lst (gs.map Graph.enc)), .own 1 2 (out.map Fault.enc)]), (1, .arr out.length), (2, .cells [.t (.str f)])], 3⟩ }) (fun r i _ => gs.any (leaG n f) = r.any (leaG n f)) 3 () rfl rfl rfl rfl rfl ?_ ?_
  · intro _ hinv
    refine fR rfl ?_
    refine Run.condF rfl rfl (by simp) ?_
    refine fR rfl ?_
    refine Run.fin rfl (EndOk.sameX rfl rfl rfl (by first | exact rfl | exact nSto_bd | exact tSto_bd) (.t ((by rw [hinv]; rfl))))
  · intro i g r _ h1 hi hd hinv ih
    have hgg := gk g (List.mem_of_getElem? h1)
    have hT := hgg.find n
    have hfl := hT.fl
    refine fR rfl ?_
    refine Run.condT rfl rfl (by simp; omega) ?_
    refine fR rfl ?_
    refine Mid.elemMap rfl rfl rfl h1 rfl rfl ?_
    refine fM rfl ?_
    refine Mid.call (find_ok H.toPr g.doc hgg.len n) rfl rfl rfl rfl ?_
    refine fM rfl ?_
    refine Run.cond rfl rfl (fun hk => ?_) (fun hk => ?_)
    · have hk' : (((findDef n g.doc).getD Def.zero).kind != 1) = true := hk
      refine fR rfl ?_
      refine aL rfl rfl rfl rfl rfl ?_
      refine fM rfl ?_
      exact rWeak 3 rfl (ih () (by rw [hinv, List.any_cons, show leaG n f g = false by unfold leaG; rw [hk']; rfl]; rfl)) rfl rfl rfl
    · have hk' : (((findDef n g.doc).getD Def.zero).kind != 1) = false := hk
      refine fR rfl ?_
      refine Mid.call (isKey_ok H ((findDef n g.doc).getD Def.zero) hT.d f) rfl rfl rfl rfl ?_
      refine fM rfl ?_
      refine Mid.callRG [2] rfl rfl (fun hg => ⟨_, containsFL_ok H ((findDef n g.doc).getD Def.zero).fields (by omega) hT.f f, rfl, rfl⟩) rfl (by simp [stoBd]; simp [AObj.bd, V.bds, V.bd]) (by repeat' (first | exact trivial | exact rfl | refine And.intro ?_ ?_ | exact (congrArg some (AObj.ren_mE _ _ _ _ _ _)).symm | exact (congrArg some (AObj.ren_cE _ _ _)).symm)) rfl ?_
      refine fM rfl ?_
      refine Run.cond rfl rfl (fun hc => ?_) (fun hc => ?_)
      · have hc' : leaG n f g = true := by unfold leaG; rw [hk']; exact hc
        refine fR rfl ?_
        refine Run.fin rfl (EndOk.sameX rfl rfl rfl (by first | exact rfl | exact nSto_bd | exact tSto_bd) (.t ((by rw [hinv, List.any_cons, hc']; rfl))))
      · have hc' : leaG n f g = false := by unfold leaG; rw [hk']; exact hc
        refine fR rfl ?_
        refine aL rfl rfl rfl rfl rfl ?_
        refine fM rfl ?_
        exact rWeak 3 rfl (ih () (by rw [hinv, List.any_cons, hc']; rfl)) rfl rfl rfl

/-- a field of a type that another field of that type provides -/
def prvM (f : Str) (n : Str) (k : Int) (y : Field) : Bool := (k == 1 && y.ty.name == n) && decide (f ∈ setM y.dirs ([112, 114, 111, 118, 105, 100, 101, 115] : Str))
def menM (ds : List Def) (t : Def) (f : Str) : Bool := isKeyM t.dirs f || (reqM f t.fields || ds.any fun x => x.fields.any (prvM f t.name x.kind))
theorem mentioned_ok (H : Pr25 P) (g : Graph) (gk : GK g.doc) (t : Def) (ht : TK t) (f : Str) : FnOk P 83 [g.v, t.v, .t (.str f)] ⟨[], 0⟩ { v := .t (.bool (menM g.doc t f)) } := by
  have hfl := ht.fl
  have hgl := gk.l
  refine FnOk.run H.i83 H.mixed rfl rfl ?_
  refine fR rfl ?_
  refine Mid.call (isKey_ok H t ht.d f) rfl rfl rfl rfl ?_
  refine fM rfl ?_
  refine Run.cond rfl rfl (fun h => ?_) (fun h => ?_)
  · have h' : isKeyM t.dirs f = true := h
    refine fR rfl ?_
    refine Run.fin rfl (EndOk.go ?_); exact .t (by unfold menM; rw [h']; rfl)
  · have h' : isKeyM t.dirs f = false := h
    have e0 : menM g.doc t f = (reqM f t.fields || g.doc.any fun x => x.fields.any (prvM f t.name x.kind)) := by unfold menM; rw [h']; rfl
    rw [e0]
    refine fR rfl ?_
    refine lM rfl rfl rfl ?_
    refine fM rfl ?_
    refine rList t.fields (fun i (_ : Unit) => { env := [(2, .t (.str f)), (3, .ptr 0 0), (4, .ptr 1 0), (17, .t (.lst (t.fields.map Field.enc))), (18, .t (.int .i64 t.fields.length)), (19, .t (.int .i64 i))], s := ⟨[(0, .cells [.t (.str g.name), .t (.lst (g.doc.map Def.enc))]), (1, (.cells [.t (.int .i64 t.kind), .t (.str t.name), .t (.lst (t.implements.map sE)), .t (.lst (t.dirs.map Dir.enc)), .t (.lst (t.fields.map Field.enc)), .t (.lst (t.members.map Member.enc)), .t (.lst (t.inputs.map Input.enc))]))], 2⟩ }) (fun r i _ => reqM f t.fields = reqM f r) 2 () rfl rfl rfl rfl rfl ?_ ?_
    · intro _ hinv
      have hinv' : reqM f t.fields = false := hinv
      rw [hinv', Bool.false_or]
      refine fR rfl ?_
      refine Run.condF rfl rfl (by simp) ?_
      refine fR rfl ?_
      refine lM rfl rfl rfl ?_
      refine fM rfl ?_
      refine rList g.doc (fun i (_ : Unit) => { env := [(2, .t (.str f)), (4, .ptr 1 0), (31, .t (.lst (g.doc.map Def.enc))), (32, .t (.int .i64 g.doc.length)), (33, .t (.int .i64 i))], s := ⟨[(1, (.cells [.t (.int .i64 t.kind), .t (.str t.name), .t (.lst (t.implements.map sE)), .t (.lst (t.dirs.map Dir.enc)), .t (.lst (t.fields.map Field.enc)), .t (.lst (t.members.map Member.enc)), .t (.lst (t.inputs.map Input.enc))]))], 2⟩ }) (fun r i _ => (g.doc.any fun x => x.fields.any (prvM f t.name x.kind)) = r.any fun x => x.fields.any (prvM f t.name x.kind)) 2 () rfl rfl rfl rfl rfl ?_ ?_
      · intro _ hinv2
        refine fR rfl ?_
        refine Run.condF rfl rfl (by simp) ?_
        refine fR rfl ?_
        refine Run.fin rfl (EndOk.go ?_); exact .t (by rw [hinv2]; rfl)
      · intro i x r _ h1 hi hd hinv2 ih
        have hx := gk.t x (List.mem_of_getElem? h1)
        have hxl := hx.fl
        refine fR rfl ?_
        refine Run.condT rfl rfl (by simp; omega) ?_
        refine fR rfl ?_
        refine Mid.elemMap rfl rfl rfl h1 rfl rfl ?_
        refine fM rfl ?_
        refine lM rfl rfl rfl ?_
        refine fM rfl ?_
        refine rList x.fields (fun j (_ : Unit) => { env := [(2, .t (.str f)), (4, .ptr 1 0), (10, .ptr 2 0), (31, .t (.lst (g.doc.map Def.enc))), (32, .t (.int .i64 g.doc.length)), (33, .t (.int .i64 i)), (38, .t (.lst (x.fields.map Field.enc))), (39, .t (.int .i64 x.fields.length)), (40, .t (.int .i64 j))], s := ⟨[(1, (.cells [.t (.int .i64 t.kind), .t (.str t.name), .t (.lst (t.implements.map sE)), .t (.lst (t.dirs.map Dir.enc)), .t (.lst (t.fields.map Field.enc)), .t (.lst (t.members.map Member.enc)), .t (.lst (t.inputs.map Input.enc))])), (2, (.cells [.t (.int .i64 x.kind), .t (.str x.name), .t (.lst (x.implements.map sE)), .t (.lst (x.dirs.map Dir.enc)), .t (.lst (x.fields.map Field.enc)), .t (.lst (x.members.map Member.enc)), .t (.lst (x.inputs.map Input.enc))]))], 3⟩ }) (fun r2 j _ => (g.doc.any fun x => x.fields.any (prvM f t.name x.kind)) = (r2.any (prvM f t.name x.kind) || r.any fun x => x.fields.any (prvM f t.name x.kind))) 3 () rfl (by rw [hinv2, List.any_cons]) rfl rfl rfl ?_ ?_
        · intro _ hinv3
          refine fR rfl ?_
          refine Run.condF rfl rfl (by simp) ?_
          refine fR rfl ?_
          refine aL rfl rfl rfl rfl rfl ?_
          refine fM rfl ?_
          exact rWeak 2 rfl (ih () (by rw [hinv3]; rfl)) rfl rfl rfl
        · intro j y r2 _ h2 hj hjd hinv3 ih3
          have hy := hx.f y (List.mem_of_getElem? h2)
          have hs := setM_le y.dirs ([112, 114, 111, 118, 105, 100, 101, 115] : Str)
          refine fR rfl ?_
          refine Run.condT rfl rfl (by simp; omega) ?_
          refine fR rfl ?_
          refine Mid.elemMap rfl rfl rfl h2 rfl rfl ?_
          refine fM rfl ?_
          refine caG rfl rfl (fun hg => ⟨_, rfl, set_ok H y.dirs hy.d ([112, 114, 111, 118, 105, 100, 101, 115] : Str), rfl⟩) rfl rfl ?_
          refine fM rfl ?_
          refine caG rfl rfl (fun hg => ⟨_, rfl, contains_ok H.toPr (setM y.dirs ([112, 114, 111, 118, 105, 100, 101, 115] : Str)) (by omega) f, rfl⟩) rfl rfl ?_
          refine fM rfl ?_
          refine Run.cond rfl rfl (fun hc => ?_) (fun hc => ?_)
          · have hc' : prvM f t.name x.kind y = true := hc
            refine fR rfl ?_
            refine Run.fin rfl (EndOk.go ?_); exact .t (by rw [hinv3, List.any_cons, hc']; rfl)
          · have hc' : prvM f t.name x.kind y = false := hc
            refine fR rfl ?_
            refine aL rfl rfl rfl rfl rfl ?_
            refine fM rfl ?_
            exact rWeak 3 rfl (ih3 () (by rw [hinv3, List.any_cons, hc']; rfl)) rfl rfl rfl
    · intro i x r _ h1 hi hd hinv ih
      have hx := ht.f x (List.mem_of_getElem? h1)
      have hs := setM_le x.dirs ([114, 101, 113, 117, 105, 114, 101, 115] : Str)
      refine fR rfl ?_
      refine Run.condT rfl rfl (by simp; omega) ?_
      refine fR rfl ?_
      refine Mid.elemMap rfl rfl rfl h1 rfl rfl ?_
      refine fM rfl ?_
      refine Mid.call (set_ok H x.dirs hx.d ([114, 101, 113, 117, 105, 114, 101, 115] : Str)) rfl rfl rfl rfl ?_
      refine fM rfl ?_
      refine Mid.call (contains_ok H.toPr (setM x.dirs ([114, 101, 113, 117, 105, 114, 101, 115] : Str)) (by omega) f) rfl rfl rfl rfl ?_
      refine fM rfl ?_
      refine Run.cond rfl rfl (fun hc => ?_) (fun hc => ?_)
      · have hc' : decide (f ∈ setM x.dirs ([114, 101, 113, 117, 105, 114, 101, 115] : Str)) = true := hc
        refine fR rfl ?_
        refine Run.fin rfl (EndOk.go ?_); exact .t (by rw [hinv, reqM, List.any_cons, hc']; rfl)
      · have hc' : decide (f ∈ setM x.dirs ([114, 101, 113, 117, 105, 114, 101, 115] : Str)) = false := hc
        refine fR rfl ?_
        refine aL rfl rfl rfl rfl rfl ?_
        refine fM rfl ?_
        exact rWeak 2 rfl (ih () (by rw [hinv, reqM, List.any_cons, hc']; rfl)) rfl rfl rfl
end Go.GB.C23


/-
  F25D: moves: violations of keys.
-/
namespace Go.GB.C23
open Go.GB Go.GB.C11
set_option linter.unusedSimpArgs false
set_option linter.unusedVariables false
set_option maxRecDepth 100000
set_option maxHeartbeats 4000000
variable {P : Program}

def ifM (c : Bool) (x : Fault) : List Fault := if c then [x] else []
theorem ifM_len (c : Bool) (x : Fault) : (ifM c x).length ≤ 1 := by cases c <;> simp [ifM]
theorem add25T_ok (H : Pr25 P) (gs : List Graph) (out : List Fault) (hl : out.length ≤ 4398046511104) (e : Int) (g : Graph) (a : Str) (hn : g.name.length ≤ 140737488355328) (ha : a.length ≤ 1125899906842624) : FnOk P 82 [.ptr 0 0, .t (.bool true), .t (.int .i64 e), g.v, .t (.str a)] ⟨[(0, .cells [.t (.lst (gs.map Graph.enc)), .own 1 2 (List.map Fault.enc (out))]), (1, .arr (out).length)], 2⟩ { v := .tup [], ob := [(0, .cells [.t (.lst (gs.map Graph.enc)), .own 1 2 (List.map Fault.enc (out ++ [(⟨e, g.name ++ [58] ++ a⟩ : Fault)]))]), (1, .arr (out ++ [(⟨e, g.name ++ [58] ++ a⟩ : Fault)]).length)], rd := true } := by
  refine FnOk.run H.i82 H.mixed rfl rfl ?_
  refine fR rfl ?_
  refine Run.condT rfl rfl rfl ?_
  refine fR rfl ?_
  refine pu rfl ?_
  refine fM rfl ?_
  refine pu rfl ?_
  refine fM rfl ?_
  refine apM Fault.enc out [(⟨e, g.name ++ [58] ++ a⟩ : Fault)] rfl rfl rfl rfl rfl ?_ (h1 := by first | omega | (simp; omega) | (simp; done)) (h2 := by first | omega | (simp; omega) | (simp; done))
  refine fM rfl ?_
  refine Run.fin rfl (EndOk.chg rfl rfl ?_ ?_)
  · exact .le (.same rfl)
  · exact (by repeat' (first | exact trivial | exact LeX.t | exact LeX.top | exact LeX.nilOwn (Nat.le_of_ble_eq_true rfl) (Nat.le_of_ble_eq_true rfl) | exact LeX.ownT | exact LeX.nilT | exact LeX.same rfl | exact LeX.tEq (by simp) | exact LeX.ownEq (by simp) (Nat.le_of_ble_eq_true rfl) | exact LeX.tEq (by congr 1 <;> omega) | exact Or.inr ⟨Nat.le_of_ble_eq_true rfl, Nat.le_of_ble_eq_true rfl, rfl⟩ | refine Or.inl ⟨Nat.le_of_ble_eq_true rfl, _, rfl, ?_⟩ | refine LeO.cells ?_ | exact LeO.arr rfl | exact LeO.arr (by simp) | exact LeO.mE (by first | rfl | simp) (by first | exact Or.inl rfl | exact Or.inr rfl) | exact LeO.cE (by first | rfl | simp) | exact LeXs.cE (by first | rfl | simp) | refine LeO.map (by first | rfl | simp) ?_ (by first | exact Or.inl rfl | exact Or.inr rfl) | exact LeO.iter (by first | rfl | simp) (Nat.le_of_ble_eq_true rfl) | refine LeXs.cons ?_ ?_ | exact LeXs.nil | refine And.intro ?_ ?_))
theorem add25F_ok (H : Pr25 P) (gs : List Graph) (out : List Fault) (e : Int) (g : Graph) (a : Str) : FnOk P 82 [.ptr 0 0, .t (.bool false), .t (.int .i64 e), g.v, .t (.str a)] ⟨[(0, .cells [.t (.lst (gs.map Graph.enc)), .own 1 2 (List.map Fault.enc (out))]), (1, .arr (out).length)], 2⟩ { v := .tup [], ob := [(0, .cells [.t (.lst (gs.map Graph.enc)), .own 1 2 (List.map Fault.enc (out))]), (1, .arr (out).length)], rd := true } := by
  refine FnOk.run H.i82 H.mixed rfl rfl ?_
  refine fR rfl ?_
  refine Run.condF rfl rfl rfl ?_
  skip
  refine Run.fin rfl (EndOk.chg rfl rfl ?_ ?_)
  · exact .le (.same rfl)
  · exact (by repeat' (first | exact trivial | exact LeX.t | exact LeX.top | exact LeX.nilOwn (Nat.le_of_ble_eq_true rfl) (Nat.le_of_ble_eq_true rfl) | exact LeX.ownT | exact LeX.nilT | exact LeX.same rfl | exact LeX.tEq (by simp) | exact LeX.ownEq (by simp) (Nat.le_of_ble_eq_true rfl) | exact LeX.tEq (by congr 1 <;> omega) | exact Or.inr ⟨Nat.le_of_ble_eq_true rfl, Nat.le_of_ble_eq_true rfl, rfl⟩ | refine Or.inl ⟨Nat.le_of_ble_eq_true rfl, _, rfl, ?_⟩ | refine LeO.cells ?_ | exact LeO.arr rfl | exact LeO.arr (by simp) | exact LeO.mE (by first | rfl | simp) (by first | exact Or.inl rfl | exact Or.inr rfl) | exact LeO.cE (by first | rfl | simp) | exact LeXs.cE (by first | rfl | simp) | refine LeO.map (by first | rfl | simp) ?_ (by first | exact Or.inl rfl | exact Or.inr rfl) | exact LeO.iter (by first | rfl | simp) (Nat.le_of_ble_eq_true rfl) | refine LeXs.cons ?_ ?_ | exact LeXs.nil | refine And.intro ?_ ?_))
theorem add25_ok (H : Pr25 P) (gs : List Graph) (out : List Fault) (c : Bool) (e : Int) (g : Graph) (a : Str) (hn : g.name.length ≤ 140737488355328) (ha : a.length ≤ 1125899906842624) (hl : out.length ≤ 4398046511104) : FnOk P 82 [.ptr 0 0, .t (.bool c), .t (.int .i64 e), g.v, .t (.str a)] ⟨[(0, .cells [.t (.lst (gs.map Graph.enc)), .own 1 2 (List.map Fault.enc (out))]), (1, .arr (out).length)], 2⟩ { v := .tup [], ob := [(0, .cells [.t (.lst (gs.map Graph.enc)), .own 1 2 (List.map Fault.enc (out ++ ifM c ⟨e, g.name ++ [58] ++ a⟩))]), (1, .arr (out ++ ifM c ⟨e, g.name ++ [58] ++ a⟩).length)], rd := true } := by
  cases c with
  | true => exact add25T_ok H gs out hl e g a hn ha
  | false => rw [show out ++ ifM false ⟨e, g.name ++ [58] ++ a⟩ = out from List.append_nil _]; exact add25F_ok H gs out e g a

/- keys -/
def rootB (n : Str) : Bool := (n == [81, 117, 101, 114, 121] || n == [77, 117, 116, 97, 116, 105, 111, 110]) || n == [83, 117, 98, 115, 99, 114, 105, 112, 116, 105, 111, 110]
/-- a type that is not null, of a leaf type -/
def plainM (ds : List Def) (x : Field) : Bool := (match x.ty.wraps with | [w] => w == 1 | _ => false) && leafM ds x.ty.name
def keyN (ds : List Def) (t : Def) (b : Bool) (n : Str) : Bool :=
  ((b || !(findField n t.fields).isSome) || decide ((((findField n t.fields).getD Field.zero).args.length : Int) > 0)) || !plainM ds ((findField n t.fields).getD Field.zero)
def keyB (ds : List Def) (t : Def) (i : Nat) (k : List Str) : Bool := k.foldl (keyN ds t) ((decide ((i : Int) ≥ 4) || rootB t.name) || ((k.length : Int) == 0))
def keyL (g : Graph) (t : Def) : Nat → List (List Str) → List Fault
  | _, [] => []
  | i, k :: r => ifM (keyB g.doc t i k) ⟨41, g.name ++ [58] ++ t.name⟩ ++ keyL g t (i + 1) r
theorem keyL_len (g : Graph) (t : Def) : ∀ (l : List (List Str)) (i : Nat), (keyL g t i l).length ≤ l.length
  | [], i => by simp [keyL]
  | k :: r, i => by
    have h1 := keyL_len g t r (i + 1)
    have h2 := ifM_len (keyB g.doc t i k) ⟨41, g.name ++ [58] ++ t.name⟩
    simp only [keyL, List.length_append, List.length_cons]; omega

theorem keys_ok (H : Pr25 P) (gs : List Graph) (g : Graph) (gk : GK g.doc) (gn : g.name.length ≤ 140737488355328) (t : Def) (ht : TK t) (out : List Fault) (hl : out.length ≤ 2199023255552) : FnOk P 61 [.ptr 0 0, g.v, t.v] ⟨[(0, .cells [.t (.lst (gs.map Graph.enc)), .own 1 2 (List.map Fault.enc (out))]), (1, .arr (out).length)], 2⟩ { v := .tup [], ob := [(0, .cells [.t (.lst (gs.map Graph.enc)), .own 1 2 (List.map Fault.enc (out ++ keyL g t 0 (keysD t.dirs)))]), (1, .arr (out ++ keyL g t 0 (keysD t.dirs)).length)], rd := true } := by
  have hfl := ht.fl
  have hdl := ht.d.l
  have hkl := keysD_len t.dirs
  have hkm := fun k (h : k ∈ keysD t.dirs) => keysD_mem h
  have hko := keysOf_ok H t ht.d
  generalize keysD t.dirs = K at hkl hkm hko
  have hR : ∀ R, out ++ keyL g t 0 K = R → FnOk P 61 [.ptr 0 0, g.v, t.v] ⟨[(0, .cells [.t (.lst (gs.map Graph.enc)), .own 1 2 (List.map Fault.enc (out))]), (1, .arr (out).length)], 2⟩ { v := .tup [], ob := [(0, .cells [.t (.lst (gs.map Graph.enc)), .own 1 2 (List.map Fault.enc (R))]), (1, .arr (R).length)], rd := true } := by
    intro R hR
    refine FnOk.run H.i61 H.mixed rfl rfl ?_
    refine fR rfl ?_
    refine Mid.call (hko) rfl rfl rfl rfl ?_
    refine lM rfl rfl rfl ?_
    refine fM rfl ?_
    refine rList K (fun i (B : List Fault) => { env := [(0, .ptr 0 0), (4, .ptr 2 0), (5, .ptr 3 0), (6, .t (.bool (rootB t.name))), (29, .t (.lst (K.map lE))), (30, .t (.int .i64 K.length)), (31, .t (.int .i64 i))], s := ⟨[(0, .cells [.t (.lst (gs.map Graph.enc)), .own 1 2 (List.map Fault.enc (B))]), (1, .arr B.length), (2, (.cells [.t (.str g.name), .t (.lst (g.doc.map Def.enc))])), (3, (.cells [.t (.int .i64 t.kind), .t (.str t.name), .t (.lst (t.implements.map sE)), .t (.lst (t.dirs.map Dir.enc)), .t (.lst (t.fields.map Field.enc)), .t (.lst (t.members.map Member.enc)), .t (.lst (t.inputs.map Input.enc))]))], 4⟩ }) (fun r i B => B.length ≤ out.length + i ∧ B ++ keyL g t i r = R) 4 out rfl ⟨by simp, hR⟩ rfl rfl rfl ?_ ?_
    · rintro B ⟨_, hB⟩
      obtain rfl : B = R := by rw [← hB]; simp [keyL]
      refine fR rfl ?_
      refine Run.condF rfl rfl (by simp) ?_
      skip
      refine Run.fin rfl (EndOk.chg rfl rfl ?_ ?_)
      · exact .le (.same rfl)
      · exact (by repeat' (first | exact trivial | exact LeX.t | exact LeX.top | exact LeX.nilOwn (Nat.le_of_ble_eq_true rfl) (Nat.le_of_ble_eq_true rfl) | exact LeX.ownT | exact LeX.nilT | exact LeX.same rfl | exact LeX.tEq (by simp) | exact LeX.ownEq (by simp) (Nat.le_of_ble_eq_true rfl) | exact LeX.tEq (by congr 1 <;> omega) | exact Or.inr ⟨Nat.le_of_ble_eq_true rfl, Nat.le_of_ble_eq_true rfl, rfl⟩ | refine Or.inl ⟨Nat.le_of_ble_eq_true rfl, _, rfl, ?_⟩ | refine LeO.cells ?_ | exact LeO.arr rfl | exact LeO.arr (by simp) | exact LeO.mE (by first | rfl | simp) (by first | exact Or.inl rfl | exact Or.inr rfl) | exact LeO.cE (by first | rfl | simp) | exact LeXs.cE (by first | rfl | simp) | refine LeO.map (by first | rfl | simp) ?_ (by first | exact Or.inl rfl | exact Or.inr rfl) | exact LeO.iter (by first | rfl | simp) (Nat.le_of_ble_eq_true rfl) | refine LeXs.cons ?_ ?_ | exact LeXs.nil | refine And.intro ?_ ?_))
    · rintro i k r B h1 hi hd ⟨hBl, hB⟩ ih
      have hBl' : B.length ≤ out.length + i := hBl
      have hB2 : B ++ (ifM (keyB g.doc t i k) ⟨41, g.name ++ [58] ++ t.name⟩ ++ keyL g t (i + 1) r) = R := hB
      have hk := hkm k (List.mem_of_getElem? h1)
      refine fR rfl ?_
      refine Run.condT rfl rfl (by simp; omega) ?_
      refine fR rfl ?_
      refine Mid.elemMap rfl rfl rfl h1 rfl rfl ?_
      refine fM rfl ?_
      refine lMG rfl rfl rfl rfl ?_
      refine fM rfl ?_
      refine lM rfl rfl rfl ?_
      refine fM rfl ?_
      refine rList k (fun j (b : Bool) => { env := [(0, .ptr 0 0), (4, .ptr 2 0), (5, .ptr 3 0), (6, .t (.bool (rootB t.name))), (9, .t (.bool b)), (29, .t (.lst (K.map lE))), (30, .t (.int .i64 K.length)), (31, .t (.int .i64 i)), (46, .t (.lst (k.map sE))), (47, .t (.int .i64 k.length)), (48, .t (.int .i64 j))], s := ⟨[(0, .cells [.t (.lst (gs.map Graph.enc)), .own 1 2 (List.map Fault.enc (B))]), (1, .arr B.length), (2, (.cells [.t (.str g.name), .t (.lst (g.doc.map Def.enc))])), (3, (.cells [.t (.int .i64 t.kind), .t (.str t.name), .t (.lst (t.implements.map sE)), .t (.lst (t.dirs.map Dir.enc)), .t (.lst (t.fields.map Field.enc)), .t (.lst (t.members.map Member.enc)), .t (.lst (t.inputs.map Input.enc))]))], 4⟩ }) (fun r2 j b => keyB g.doc t i k = r2.foldl (keyN g.doc t) b) 4 ((decide ((i : Int) ≥ 4) || rootB t.name) || ((k.length : Int) == 0)) rfl rfl rfl rfl rfl ?_ ?_
      · rintro b hb
        have hb' : keyB g.doc t i k = b := hb
        rw [hb'] at hB2
        have ha := ifM_len b ⟨41, g.name ++ [58] ++ t.name⟩
        refine fR rfl ?_
        refine Run.condF rfl rfl (by simp) ?_
        refine fR rfl ?_
        refine Mid.callR [0, 1] (add25_ok H gs B b 41 g t.name gn (by have := ht.nm; omega) (by omega)) rfl rfl rfl rfl (by simp [stoBd]; simp [AObj.bd, V.bds, V.bd]) (by repeat' (first | exact trivial | exact rfl | refine And.intro ?_ ?_ | exact (congrArg some (AObj.ren_mE _ _ _ _ _ _)).symm | exact (congrArg some (AObj.ren_cE _ _ _)).symm)) rfl rfl (ob' := [(0, .cells [.t (.lst (gs.map Graph.enc)), .own 1 2 (List.map Fault.enc (B ++ ifM b ⟨41, g.name ++ [58] ++ t.name⟩))]), (1, .arr (B ++ ifM b ⟨41, g.name ++ [58] ++ t.name⟩).length)]) (rfl) rfl rfl ?_
        refine fM rfl ?_
        refine aL rfl rfl rfl rfl rfl ?_
        refine fM rfl ?_
        generalize ifM b ⟨41, g.name ++ [58] ++ t.name⟩ = N1 at ha hB2
        exact rWeak 4 rfl (ih (B ++ N1) ⟨by simp; omega, by rw [← hB2]; simp⟩) rfl rfl rfl
      · rintro j n r2 b h2 hj hd2 hb ih2
        have hb' : keyB g.doc t i k = r2.foldl (keyN g.doc t) (keyN g.doc t b n) := hb
        have hF := ht.field n
        have hal := hF.al
        have hwl := hF.w
        unfold keyN at hb'
        refine fR rfl ?_
        refine Run.condT rfl rfl (by simp; omega) ?_
        refine fR rfl ?_
        refine Mid.elemMap rfl rfl rfl h2 rfl rfl ?_
        refine fM rfl ?_
        refine Mid.call (fieldOf_ok H.toPr t (by omega) n) rfl rfl rfl rfl ?_
        refine fM rfl ?_
        refine lM rfl rfl rfl ?_
        refine fM rfl ?_
        unfold plainM at hb'
        generalize (findField n t.fields).getD Field.zero = F at hF hal hwl hb' ⊢
        generalize (findField n t.fields).isSome = ok at hb' ⊢
        by_cases hw : F.ty.wraps.length = 1
        · obtain ⟨w, hw'⟩ := List.length_eq_one_iff.1 hw
          rw [hw'] at hb'
          have h0 : F.ty.wraps[0]? = some w := by rw [hw']; rfl
          have e1 : ((F.ty.wraps.length : Int) == 1) = true := by rw [hw]; rfl
          rw [e1]
          skip
          refine elG rfl rfl rfl rfl h0 rfl rfl ?_
          refine fM rfl ?_
          refine caG rfl rfl (fun hg => ⟨_, rfl, leaf25_ok H g.doc gk F.ty.name, rfl⟩) rfl rfl ?_
          refine fM rfl ?_
          refine lMG rfl rfl rfl rfl ?_
          refine fM rfl ?_
          refine aL rfl rfl rfl rfl rfl ?_
          refine fM rfl ?_
          exact rWeak 4 rfl (ih2 (((b || !ok) || decide ((F.args.length : Int) > 0)) || !((w == 1) && leafM g.doc F.ty.name)) hb') rfl rfl rfl
        · have e1 : ((F.ty.wraps.length : Int) == 1) = false := by simp; omega
          have e2 : (match F.ty.wraps with | [w] => w == 1 | _ => false) = false := by
            cases hc : F.ty.wraps with
            | nil => rfl
            | cons a l => cases l with
              | nil => rw [hc] at hw; exact absurd rfl hw
              | cons => rfl
          rw [e2] at hb'
          rw [e1]
          cases hc : F.ty.wraps with
          | nil =>
            refine Mid.grdF rfl rfl rfl rfl rfl ?_
            refine Mid.grdF rfl rfl rfl rfl rfl ?_
            refine Mid.grdF rfl rfl rfl rfl rfl ?_
            refine fM rfl ?_
            refine Mid.grdF rfl rfl rfl rfl rfl ?_
            refine fM rfl ?_
            refine lMG rfl rfl rfl rfl ?_
            refine fM rfl ?_
            refine aL rfl rfl rfl rfl rfl ?_
            refine fM rfl ?_
            exact rWeak 4 rfl (ih2 (((b || !ok) || decide ((F.args.length : Int) > 0)) || !false) hb') rfl rfl rfl
          | cons a l =>
            refine gr rfl ?_
            refine fM rfl ?_
            refine Mid.grdF rfl rfl rfl rfl rfl ?_
            refine fM rfl ?_
            refine lMG rfl rfl rfl rfl ?_
            refine fM rfl ?_
            refine aL rfl rfl rfl rfl rfl ?_
            refine fM rfl ?_
            exact rWeak 4 rfl (ih2 (((b || !ok) || decide ((F.args.length : Int) > 0)) || !false) hb') rfl rfl rfl
  exact hR _ rfl
end Go.GB.C23


/-
  F25E: moves: violations of fields.
-/
namespace Go.GB.C23
open Go.GB Go.GB.C11
set_option linter.unusedSimpArgs false
set_option linter.unusedVariables false
set_option maxRecDepth 100000
set_option maxHeartbeats 4000000
variable {P : Program}

def placeM (g : Graph) (t : Def) (x : Field) : Str := g.name ++ [58] ++ (t.name ++ [46] ++ x.name)
def c1M (gs : List Graph) (a : Nat) (g : Graph) (t : Def) (x : Field) : Bool := hasD ([101, 120, 116, 101, 114, 110, 97, 108] : Str) x.dirs && (!menM g.doc t x.name || !othM a t.name x.name 0 gs)
def c2M (gs : List Graph) (g : Graph) (t : Def) (x : Field) : Bool := hasD ([114, 101, 113, 117, 105, 114, 101, 115] : Str) x.dirs && (((hasD ([101, 120, 116, 101, 114, 110, 97, 108] : Str) x.dirs || gs.any (leaG t.name x.name)) || (((keysD t.dirs).length : Int) == 0)) || !outM g.doc t (setM x.dirs ([114, 101, 113, 117, 105, 114, 101, 115] : Str)))
def c3M (g : Graph) (x : Field) : Bool := (!(findDef x.ty.name g.doc).isSome || ((findDef x.ty.name g.doc).getD Def.zero).kind != 1) || !outM g.doc ((findDef x.ty.name g.doc).getD Def.zero) (setM x.dirs ([112, 114, 111, 118, 105, 100, 101, 115] : Str))
def c4M (gs : List Graph) (a : Nat) (t : Def) (x : Field) : Bool := (!hasD ([101, 120, 116, 101, 114, 110, 97, 108] : Str) x.dirs && othM a t.name x.name 0 gs) && (hasD ([114, 101, 113, 117, 105, 114, 101, 115] : Str) x.dirs || !(hasD ([115, 104, 97, 114, 101, 97, 98, 108, 101] : Str) x.dirs || isKeyM t.dirs x.name))
def fieldF (gs : List Graph) (a : Nat) (g : Graph) (t : Def) (x : Field) : List Fault :=
  ifM (c1M gs a g t x) ⟨42, placeM g t x⟩ ++ (ifM (c2M gs g t x) ⟨43, placeM g t x⟩ ++ ((if hasD ([112, 114, 111, 118, 105, 100, 101, 115] : Str) x.dirs = true then ifM (c3M g x) ⟨44, placeM g t x⟩ else []) ++ ifM (c4M gs a t x) ⟨40, placeM g t x⟩))
theorem fieldF_len (gs : List Graph) (a : Nat) (g : Graph) (t : Def) (x : Field) : (fieldF gs a g t x).length ≤ 4 := by
  have h1 := ifM_len (c1M gs a g t x) ⟨42, placeM g t x⟩
  have h2 := ifM_len (c2M gs g t x) ⟨43, placeM g t x⟩
  have h3 := ifM_len (c3M g x) ⟨44, placeM g t x⟩
  have h4 := ifM_len (c4M gs a t x) ⟨40, placeM g t x⟩
  unfold fieldF
  simp only [List.length_append]
  split
  · omega
  · simp only [List.length_nil]; omega

theorem field_ok (H : Pr25 P) (gs : List Graph) (hl : gs.length ≤ 140737488355328) (gk : ∀ g, g ∈ gs → GK g.doc) (gn : ∀ g, g ∈ gs → g.name.length ≤ 140737488355328) (a : Nat) (g : Graph) (ha : gs[a]? = some g) (t : Def) (ht : TK t) (x : Field) (hx : FK x) (out : List Fault) (hol : out.length ≤ 2199023255552) :
    FnOk P 63 [.ptr 0 0, .t (.int .i64 a), t.v, x.v] ⟨[(0, .cells [.t (.lst (gs.map Graph.enc)), .own 1 2 (List.map Fault.enc (out))]), (1, .arr (out).length)], 2⟩ { v := .tup [], ob := [(0, .cells [.t (.lst (gs.map Graph.enc)), .own 1 2 (List.map Fault.enc (out ++ fieldF gs a g t x))]), (1, .arr (out ++ fieldF gs a g t x).length)], rd := true } := by
  have hgg := gk g (List.mem_of_getElem? ha)
  have hT := hgg.find x.ty.name
  have hdl := ht.d.l
  have hkl := keysD_len t.dirs
  have hgn := gn g (List.mem_of_getElem? ha)
  have hpl : (t.name ++ [46] ++ x.name).length ≤ 1125899906842624 := by have := ht.nm; have := hx.nm; simp; omega
  have htn := ht.nm
  have hxn := hx.nm
  have hs1 := setM_le x.dirs ([114, 101, 113, 117, 105, 114, 101, 115] : Str)
  have hs2 := setM_le x.dirs ([112, 114, 111, 118, 105, 100, 101, 115] : Str)
  have a1 := ifM_len (c1M gs a g t x) ⟨42, placeM g t x⟩
  have a2 := ifM_len (c2M gs g t x) ⟨43, placeM g t x⟩
  have a3 := ifM_len (c3M g x) ⟨44, placeM g t x⟩
  have a4 := ifM_len (c4M gs a t x) ⟨40, placeM g t x⟩
  have hR : ∀ R, out ++ fieldF gs a g t x = R → FnOk P 63 [.ptr 0 0, .t (.int .i64 a), t.v, x.v] ⟨[(0, .cells [.t (.lst (gs.map Graph.enc)), .own 1 2 (List.map Fault.enc (out))]), (1, .arr (out).length)], 2⟩ { v := .tup [], ob := [(0, .cells [.t (.lst (gs.map Graph.enc)), .own 1 2 (List.map Fault.enc (R))]), (1, .arr (R).length)], rd := true } := by
    intro R hR
    unfold fieldF at hR
    refine FnOk.run H.i63 H.mixed rfl rfl ?_
    refine fR rfl ?_
    refine Mid.elemMap rfl rfl rfl ha rfl rfl ?_
    refine fM rfl ?_
    refine pu rfl ?_
    refine fM rfl ?_
    refine pu rfl ?_
    refine fM rfl ?_
    refine Mid.call (hasD_ok H.toPr23 25 x.dirs hx.d.len ([101, 120, 116, 101, 114, 110, 97, 108] : Str) (.inl rfl)) rfl rfl rfl rfl ?_
    refine fM rfl ?_
    refine Mid.call (hasD_ok H.toPr23 25 x.dirs hx.d.len ([114, 101, 113, 117, 105, 114, 101, 115] : Str) (.inl rfl)) rfl rfl rfl rfl ?_
    refine fM rfl ?_
    refine caG rfl rfl (fun hg => ⟨_, rfl, mentioned_ok H g hgg t ht x.name, rfl⟩) rfl rfl ?_
    refine fM rfl ?_
    refine Mid.callRG [0, 1] rfl rfl (fun hg => ⟨_, others_ok H gs hl gk out a t.name x.name, rfl, rfl⟩) rfl (by simp [stoBd]; simp [AObj.bd, V.bds, V.bd]) (by repeat' (first | exact trivial | exact rfl | refine And.intro ?_ ?_ | exact (congrArg some (AObj.ren_mE _ _ _ _ _ _)).symm | exact (congrArg some (AObj.ren_cE _ _ _)).symm)) rfl ?_
    refine fM rfl ?_
    refine Mid.callR [0, 1] (add25_ok H gs out (c1M gs a g t x) 42 g (t.name ++ [46] ++ x.name) hgn hpl (by omega)) rfl rfl rfl rfl (by simp [stoBd]; simp [AObj.bd, V.bds, V.bd]) (by repeat' (first | exact trivial | exact rfl | refine And.intro ?_ ?_ | exact (congrArg some (AObj.ren_mE _ _ _ _ _ _)).symm | exact (congrArg some (AObj.ren_cE _ _ _)).symm)) rfl rfl (ob' := [(0, .cells [.t (.lst (gs.map Graph.enc)), .own 1 2 (List.map Fault.enc (out ++ ifM (c1M gs a g t x) ⟨42, placeM g t x⟩))]), (1, .arr (out ++ ifM (c1M gs a g t x) ⟨42, placeM g t x⟩).length)]) (rfl) rfl rfl ?_
    refine fM rfl ?_
    generalize ifM (c1M gs a g t x) ⟨42, placeM g t x⟩ = N1 at hR a1
    refine Mid.callRG [0, 1] rfl rfl (fun hg => ⟨_, leant_ok H gs hl gk (out ++ N1) t.name x.name, rfl, rfl⟩) rfl (by simp [stoBd]; simp [AObj.bd, V.bds, V.bd]) (by repeat' (first | exact trivial | exact rfl | refine And.intro ?_ ?_ | exact (congrArg some (AObj.ren_mE _ _ _ _ _ _)).symm | exact (congrArg some (AObj.ren_cE _ _ _)).symm)) rfl ?_
    refine fM rfl ?_
    refine caG rfl rfl (fun hg => ⟨_, rfl, keysOf_ok H t ht.d, rfl⟩) rfl rfl ?_
    refine lMG rfl rfl rfl rfl ?_
    refine fM rfl ?_
    refine caG rfl rfl (fun hg => ⟨_, rfl, set_ok H x.dirs hx.d ([114, 101, 113, 117, 105, 114, 101, 115] : Str), rfl⟩) rfl rfl ?_
    skip
    refine caG rfl rfl (fun hg => ⟨_, rfl, outside_ok H g hgg t ht (setM x.dirs ([114, 101, 113, 117, 105, 114, 101, 115] : Str)) (by omega), rfl⟩) rfl rfl ?_
    refine fM rfl ?_
    refine Mid.callR [0, 1] (add25_ok H gs (out ++ N1) (c2M gs g t x) 43 g (t.name ++ [46] ++ x.name) hgn hpl (by simp; omega)) rfl rfl rfl rfl (by simp [stoBd]; simp [AObj.bd, V.bds, V.bd]) (by repeat' (first | exact trivial | exact rfl | refine And.intro ?_ ?_ | exact (congrArg some (AObj.ren_mE _ _ _ _ _ _)).symm | exact (congrArg some (AObj.ren_cE _ _ _)).symm)) rfl rfl (ob' := [(0, .cells [.t (.lst (gs.map Graph.enc)), .own 1 2 (List.map Fault.enc (out ++ N1 ++ ifM (c2M gs g t x) ⟨43, placeM g t x⟩))]), (1, .arr (out ++ N1 ++ ifM (c2M gs g t x) ⟨43, placeM g t x⟩).length)]) (rfl) rfl rfl ?_
    refine fM rfl ?_
    generalize ifM (c2M gs g t x) ⟨43, placeM g t x⟩ = N2 at hR a2
    refine Mid.call (hasD_ok H.toPr23 25 x.dirs hx.d.len ([112, 114, 111, 118, 105, 100, 101, 115] : Str) (.inl rfl)) rfl rfl rfl rfl ?_
    refine fM rfl ?_
    refine Run.cond rfl rfl (fun hp => ?_) (fun hp => ?_)
    · rw [if_pos hp] at hR
      refine fR rfl ?_
      refine Mid.call (find_ok H.toPr g.doc hgg.len x.ty.name) rfl rfl rfl rfl ?_
      refine fM rfl ?_
      refine caG rfl rfl (fun hg => ⟨_, rfl, set_ok H x.dirs hx.d ([112, 114, 111, 118, 105, 100, 101, 115] : Str), rfl⟩) rfl rfl ?_
      skip
      refine caG rfl rfl (fun hg => ⟨_, rfl, outside_ok H g hgg ((findDef x.ty.name g.doc).getD Def.zero) hT (setM x.dirs ([112, 114, 111, 118, 105, 100, 101, 115] : Str)) (by omega), rfl⟩) rfl rfl ?_
      refine fM rfl ?_
      refine Mid.callR [0, 1] (add25_ok H gs (out ++ N1 ++ N2) (c3M g x) 44 g (t.name ++ [46] ++ x.name) hgn hpl (by simp; omega)) rfl rfl rfl rfl (by simp [stoBd]; simp [AObj.bd, V.bds, V.bd]) (by repeat' (first | exact trivial | exact rfl | refine And.intro ?_ ?_ | exact (congrArg some (AObj.ren_mE _ _ _ _ _ _)).symm | exact (congrArg some (AObj.ren_cE _ _ _)).symm)) rfl rfl (ob' := [(0, .cells [.t (.lst (gs.map Graph.enc)), .own 1 2 (List.map Fault.enc (out ++ N1 ++ N2 ++ ifM (c3M g x) ⟨44, placeM g t x⟩))]), (1, .arr (out ++ N1 ++ N2 ++ ifM (c3M g x) ⟨44, placeM g t x⟩).length)]) (rfl) rfl rfl ?_
      refine fM rfl ?_
      generalize ifM (c3M g x) ⟨44, placeM g t x⟩ = N3 at hR a3
      refine Mid.call (hasD_ok H.toPr23 25 x.dirs hx.d.len ([115, 104, 97, 114, 101, 97, 98, 108, 101] : Str) (.inl rfl)) rfl rfl rfl rfl ?_
      refine fM rfl ?_
      refine caG rfl rfl (fun hg => ⟨_, rfl, isKey_ok H t ht.d x.name, rfl⟩) rfl rfl ?_
      refine fM rfl ?_
      refine Mid.callRG [0, 1] rfl rfl (fun hg => ⟨_, others_ok H gs hl gk (out ++ N1 ++ N2 ++ N3) a t.name x.name, rfl, rfl⟩) rfl (by simp [stoBd]; simp [AObj.bd, V.bds, V.bd]) (by repeat' (first | exact trivial | exact rfl | refine And.intro ?_ ?_ | exact (congrArg some (AObj.ren_mE _ _ _ _ _ _)).symm | exact (congrArg some (AObj.ren_cE _ _ _)).symm)) rfl ?_
      refine fM rfl ?_
      refine Mid.callR [0, 1] (add25_ok H gs (out ++ N1 ++ N2 ++ N3) (c4M gs a t x) 40 g (t.name ++ [46] ++ x.name) hgn hpl (by simp; omega)) rfl rfl rfl rfl (by simp [stoBd]; simp [AObj.bd, V.bds, V.bd]) (by repeat' (first | exact trivial | exact rfl | refine And.intro ?_ ?_ | exact (congrArg some (AObj.ren_mE _ _ _ _ _ _)).symm | exact (congrArg some (AObj.ren_cE _ _ _)).symm)) rfl rfl (ob' := [(0, .cells [.t (.lst (gs.map Graph.enc)), .own 1 2 (List.map Fault.enc (out ++ N1 ++ N2 ++ N3 ++ ifM (c4M gs a t x) ⟨40, placeM g t x⟩))]), (1, .arr (out ++ N1 ++ N2 ++ N3 ++ ifM (c4M gs a t x) ⟨40, placeM g t x⟩).length)]) (rfl) rfl rfl ?_
      refine fM rfl ?_
      have hR' : out ++ N1 ++ N2 ++ N3 ++ ifM (c4M gs a t x) ⟨40, placeM g t x⟩ = R := by rw [← hR]; simp
      refine Run.fin rfl (EndOk.chg rfl rfl ?_ ?_)
      · exact .le (.same rfl)
      · rw [hR']
        exact (by repeat' (first | exact trivial | exact LeX.t | exact LeX.top | exact LeX.nilOwn (Nat.le_of_ble_eq_true rfl) (Nat.le_of_ble_eq_true rfl) | exact LeX.ownT | exact LeX.nilT | exact LeX.same rfl | exact LeX.tEq (by simp) | exact LeX.ownEq (by simp) (Nat.le_of_ble_eq_true rfl) | exact LeX.tEq (by congr 1 <;> omega) | exact Or.inr ⟨Nat.le_of_ble_eq_true rfl, Nat.le_of_ble_eq_true rfl, rfl⟩ | refine Or.inl ⟨Nat.le_of_ble_eq_true rfl, _, rfl, ?_⟩ | refine LeO.cells ?_ | exact LeO.arr rfl | exact LeO.arr (by simp) | exact LeO.mE (by first | rfl | simp) (by first | exact Or.inl rfl | exact Or.inr rfl) | exact LeO.cE (by first | rfl | simp) | exact LeXs.cE (by first | rfl | simp) | refine LeO.map (by first | rfl | simp) ?_ (by first | exact Or.inl rfl | exact Or.inr rfl) | exact LeO.iter (by first | rfl | simp) (Nat.le_of_ble_eq_true rfl) | refine LeXs.cons ?_ ?_ | exact LeXs.nil | refine And.intro ?_ ?_))
    · rw [if_neg (by rw [hp]; simp), List.nil_append] at hR
      refine fR rfl ?_
      refine Mid.call (hasD_ok H.toPr23 25 x.dirs hx.d.len ([115, 104, 97, 114, 101, 97, 98, 108, 101] : Str) (.inl rfl)) rfl rfl rfl rfl ?_
      refine fM rfl ?_
      refine caG rfl rfl (fun hg => ⟨_, rfl, isKey_ok H t ht.d x.name, rfl⟩) rfl rfl ?_
      refine fM rfl ?_
      refine Mid.callRG [0, 1] rfl rfl (fun hg => ⟨_, others_ok H gs hl gk (out ++ N1 ++ N2) a t.name x.name, rfl, rfl⟩) rfl (by simp [stoBd]; simp [AObj.bd, V.bds, V.bd]) (by repeat' (first | exact trivial | exact rfl | refine And.intro ?_ ?_ | exact (congrArg some (AObj.ren_mE _ _ _ _ _ _)).symm | exact (congrArg some (AObj.ren_cE _ _ _)).symm)) rfl ?_
      refine fM rfl ?_
      refine Mid.callR [0, 1] (add25_ok H gs (out ++ N1 ++ N2) (c4M gs a t x) 40 g (t.name ++ [46] ++ x.name) hgn hpl (by simp; omega)) rfl rfl rfl rfl (by simp [stoBd]; simp [AObj.bd, V.bds, V.bd]) (by repeat' (first | exact trivial | exact rfl | refine And.intro ?_ ?_ | exact (congrArg some (AObj.ren_mE _ _ _ _ _ _)).symm | exact (congrArg some (AObj.ren_cE _ _ _)).symm)) rfl rfl (ob' := [(0, .cells [.t (.lst (gs.map Graph.enc)), .own 1 2 (List.map Fault.enc (out ++ N1 ++ N2 ++ ifM (c4M gs a t x) ⟨40, placeM g t x⟩))]), (1, .arr (out ++ N1 ++ N2 ++ ifM (c4M gs a t x) ⟨40, placeM g t x⟩).length)]) (rfl) rfl rfl ?_
      refine fM rfl ?_
      have hR' : out ++ N1 ++ N2 ++ ifM (c4M gs a t x) ⟨40, placeM g t x⟩ = R := by rw [← hR]; simp
      refine Run.fin rfl (EndOk.chg rfl rfl ?_ ?_)
      · exact .le (.same rfl)
      · rw [hR']
        exact (by repeat' (first | exact trivial | exact LeX.t | exact LeX.top | exact LeX.nilOwn (Nat.le_of_ble_eq_true rfl) (Nat.le_of_ble_eq_true rfl) | exact LeX.ownT | exact LeX.nilT | exact LeX.same rfl | exact LeX.tEq (by simp) | exact LeX.ownEq (by simp) (Nat.le_of_ble_eq_true rfl) | exact LeX.tEq (by congr 1 <;> omega) | exact Or.inr ⟨Nat.le_of_ble_eq_true rfl, Nat.le_of_ble_eq_true rfl, rfl⟩ | refine Or.inl ⟨Nat.le_of_ble_eq_true rfl, _, rfl, ?_⟩ | refine LeO.cells ?_ | exact LeO.arr rfl | exact LeO.arr (by simp) | exact LeO.mE (by first | rfl | simp) (by first | exact Or.inl rfl | exact Or.inr rfl) | exact LeO.cE (by first | rfl | simp) | exact LeXs.cE (by first | rfl | simp) | refine LeO.map (by first | rfl | simp) ?_ (by first | exact Or.inl rfl | exact Or.inr rfl) | exact LeO.iter (by first | rfl | simp) (Nat.le_of_ble_eq_true rfl) | refine LeXs.cons ?_ ?_ | exact LeXs.nil | refine And.intro ?_ ?_))
  exact hR _ rfl
end Go.GB.C23


/-
  F25F: moves: keys and joins of graphs.
-/
namespace Go.GB.C23
open Go.GB Go.GB.C11
set_option linter.unusedSimpArgs false
set_option linter.unusedVariables false
set_option maxRecDepth 100000
set_option maxHeartbeats 4000000
variable {P : Program}

structure KeyO where
  ty : Str
  graph : Int
  fields : List Str
def KeyO.enc (k : KeyO) : List T := [.str k.ty, .int .i64 k.graph, .lst (k.fields.map sE)]
structure Jn where
  ty : Str
  field : Str
  graph : Int
  ext : Bool
  req : List Str
  prov : List Str
def Jn.enc (j : Jn) : List T := [.str j.ty, .str j.field, .int .i64 j.graph, .bool j.ext, .lst (j.req.map sE), .lst (j.prov.map sE)]
structure Acc where
  k : List KeyO
  j : List Jn
  b : List Fault

def keyOf (i : Nat) (t : Def) (k : List Str) : KeyO := ⟨t.name, i, k⟩
def jnOf (i : Nat) (t : Def) (x : Field) : Jn := ⟨t.name, x.name, i, hasD ([101, 120, 116, 101, 114, 110, 97, 108] : Str) x.dirs, setM x.dirs ([114, 101, 113, 117, 105, 114, 101, 115] : Str), setM x.dirs ([112, 114, 111, 118, 105, 100, 101, 115] : Str)⟩
def kDef (i : Nat) (t : Def) : List KeyO := if t.kind = 1 then (keysD t.dirs).map (keyOf i t) else []
def jDef (i : Nat) (t : Def) : List Jn := if t.kind = 1 then t.fields.map (jnOf i t) else []
def fL (gs : List Graph) (i : Nat) (g : Graph) (t : Def) : List Field → List Fault
  | [] => []
  | x :: r => fieldF gs i g t x ++ fL gs i g t r
def bDef (gs : List Graph) (i : Nat) (g : Graph) (t : Def) : List Fault := if t.kind = 1 then keyL g t 0 (keysD t.dirs) ++ fL gs i g t t.fields else []
def kDefs (i : Nat) : List Def → List KeyO
  | [] => []
  | t :: r => kDef i t ++ kDefs i r
def jDefs (i : Nat) : List Def → List Jn
  | [] => []
  | t :: r => jDef i t ++ jDefs i r
def bDefs (gs : List Graph) (i : Nat) (g : Graph) : List Def → List Fault
  | [] => []
  | t :: r => bDef gs i g t ++ bDefs gs i g r
def kAll : Nat → List Graph → List KeyO
  | _, [] => []
  | i, g :: r => kDefs i g.doc ++ kAll (i + 1) r
def jAll : Nat → List Graph → List Jn
  | _, [] => []
  | i, g :: r => jDefs i g.doc ++ jAll (i + 1) r
def bAll (gs : List Graph) : Nat → List Graph → List Fault
  | _, [] => []
  | i, g :: r => bDefs gs i g g.doc ++ bAll gs (i + 1) r
structure JoinsB (gs : List Graph) : Prop where
  l : gs.length ≤ 140737488355328
  g : ∀ g, g ∈ gs → GK g.doc
  n : ∀ g, g ∈ gs → g.name.length ≤ 140737488355328
  k : (kAll 0 gs).length ≤ 549755813888
  j : (jAll 0 gs).length ≤ 549755813888
  b : (bAll gs 0 gs).length ≤ 549755813888

theorem joins_ok (H : Pr25 P) (gs : List Graph) (hB : JoinsB gs) : FnOk P 33 [.t (.lst (gs.map Graph.enc))] ⟨[], 0⟩
    { v := .tup [.t (.lst ((if bAll gs 0 gs = [] then kAll 0 gs else []).map KeyO.enc)), .t (.lst ((if bAll gs 0 gs = [] then jAll 0 gs else []).map Jn.enc)), .t (.lst ((bAll gs 0 gs).map Fault.enc))] } := by
  have hl := hB.l
  have hk := hB.k
  have hj := hB.j
  have hb := hB.b
  generalize hK : kAll 0 gs = K at hk ⊢
  generalize hJ : jAll 0 gs = J at hj ⊢
  generalize hF : bAll gs 0 gs = F at hb ⊢
  refine FnOk.run H.i33 H.mixed rfl rfl ?_
  refine fR rfl ?_
  refine lM rfl rfl rfl ?_
  refine fM rfl ?_
  refine rList gs (fun i (A : Acc) => { env := [(5, .own 1 3 (A.k.map KeyO.enc)), (6, .own 2 6 (A.j.map Jn.enc)), (7, .ptr 0 0), (19, .t (.lst (gs.map Graph.enc))), (20, .t (.int .i64 gs.length)), (21, .t (.int .i64 i))], s := ⟨[(0, .cells [.t (.lst (gs.map Graph.enc)), .own 3 2 (List.map Fault.enc (A.b))]), (1, .arr A.k.length), (2, .arr A.j.length), (3, .arr A.b.length)], 4⟩ }) (fun r i A => (A.k ++ kAll i r = K ∧ A.j ++ jAll i r = J) ∧ A.b ++ bAll gs i r = F) 1 ⟨[], [], []⟩ rfl ⟨⟨hK, hJ⟩, hF⟩ rfl rfl rfl ?_ ?_ (he := (by repeat' (first | exact trivial | exact LeX.t | exact LeX.top | exact LeX.nilOwn (Nat.le_of_ble_eq_true rfl) (Nat.le_of_ble_eq_true rfl) | exact LeX.ownT | exact LeX.nilT | exact LeX.same rfl | exact LeX.tEq (by simp) | exact LeX.ownEq (by simp) (Nat.le_of_ble_eq_true rfl) | exact LeX.tEq (by congr 1 <;> omega) | exact Or.inr ⟨Nat.le_of_ble_eq_true rfl, Nat.le_of_ble_eq_true rfl, rfl⟩ | refine Or.inl ⟨Nat.le_of_ble_eq_true rfl, _, rfl, ?_⟩ | refine LeO.cells ?_ | exact LeO.arr rfl | exact LeO.arr (by simp) | exact LeO.mE (by first | rfl | simp) (by first | exact Or.inl rfl | exact Or.inr rfl) | exact LeO.cE (by first | rfl | simp) | exact LeXs.cE (by first | rfl | simp) | refine LeO.map (by first | rfl | simp) ?_ (by first | exact Or.inl rfl | exact Or.inr rfl) | exact LeO.iter (by first | rfl | simp) (Nat.le_of_ble_eq_true rfl) | refine LeXs.cons ?_ ?_ | exact LeXs.nil | refine And.intro ?_ ?_))) (hs := (by repeat' (first | exact trivial | exact LeX.t | exact LeX.top | exact LeX.nilOwn (Nat.le_of_ble_eq_true rfl) (Nat.le_of_ble_eq_true rfl) | exact LeX.ownT | exact LeX.nilT | exact LeX.same rfl | exact LeX.tEq (by simp) | exact LeX.ownEq (by simp) (Nat.le_of_ble_eq_true rfl) | exact LeX.tEq (by congr 1 <;> omega) | exact Or.inr ⟨Nat.le_of_ble_eq_true rfl, Nat.le_of_ble_eq_true rfl, rfl⟩ | refine Or.inl ⟨Nat.le_of_ble_eq_true rfl, _, rfl, ?_⟩ | refine LeO.cells ?_ | exact LeO.arr rfl | exact LeO.arr (by simp) | exact LeO.mE (by first | rfl | simp) (by first | exact Or.inl rfl | exact Or.inr rfl) | exact LeO.cE (by first | rfl | simp) | exact LeXs.cE (by first | rfl | simp) | refine LeO.map (by first | rfl | simp) ?_ (by first | exact Or.inl rfl | exact Or.inr rfl) | exact LeO.iter (by first | rfl | simp) (Nat.le_of_ble_eq_true rfl) | refine LeXs.cons ?_ ?_ | exact LeXs.nil | refine And.intro ?_ ?_)))
  · rintro ⟨k, j, b⟩ ⟨⟨h1, h2⟩, h3⟩
    obtain rfl : k = K := by rw [← h1]; simp [kAll]
    obtain rfl : j = J := by rw [← h2]; simp [jAll]
    obtain rfl : b = F := by rw [← h3]; simp [bAll]
    dsimp only
    refine fR rfl ?_
    refine Run.condF rfl rfl (by simp) ?_
    refine fR rfl ?_
    refine lM rfl rfl rfl ?_
    refine fM rfl ?_
    refine Run.cond rfl rfl (fun hc => ?_) (fun hc => ?_)
    · have hc' : ¬ b = [] := by intro e; rw [e] at hc; simp at hc
      rw [if_neg hc', if_neg hc']
      refine fR rfl ?_
      refine Run.fin rfl (EndOk.go ?_); exact .tup3 (.nil rfl) (.nil rfl) (.own rfl)
    · have hc' : b = [] := by
        have : b.length = 0 := by simp at hc; simp [hc]
        exact List.length_eq_zero_iff.1 this
      subst hc'
      rw [if_pos rfl, if_pos rfl]
      refine fR rfl ?_
      refine Run.fin rfl (EndOk.go ?_); exact .tup3 (.own rfl) (.own rfl) (.nil rfl)
  · rintro i g r A h1 hi hd ⟨⟨e1, e2⟩, e3⟩ ih
    have hg := hB.g g (List.mem_of_getElem? h1)
    have hgl := hg.l
    have hlk := congrArg List.length e1
    have hlj := congrArg List.length e2
    have hlb := congrArg List.length e3
    simp only [List.length_append] at hlk hlj hlb
    refine fR rfl ?_
    refine Run.condT rfl rfl (by simp; omega) ?_
    refine fR rfl ?_
    refine Mid.elemMap rfl rfl rfl h1 rfl rfl ?_
    refine fM rfl ?_
    refine lM rfl rfl rfl ?_
    refine fM rfl ?_
    refine rList g.doc (fun m (A : Acc) => { env := [(5, .own 1 3 (A.k.map KeyO.enc)), (6, .own 2 6 (A.j.map Jn.enc)), (7, .ptr 0 0), (8, .t (.int .i64 i)), (9, .ptr 4 0), (19, .t (.lst (gs.map Graph.enc))), (20, .t (.int .i64 gs.length)), (21, .t (.int .i64 i)), (28, .t (.lst (g.doc.map Def.enc))), (29, .t (.int .i64 g.doc.length)), (30, .t (.int .i64 m))], s := ⟨[(0, .cells [.t (.lst (gs.map Graph.enc)), .own 3 2 (List.map Fault.enc (A.b))]), (1, .arr A.k.length), (2, .arr A.j.length), (3, .arr A.b.length), (4, (.cells [.t (.str g.name), .t (.lst (g.doc.map Def.enc))]))], 5⟩ }) (fun r1 m A => (A.k ++ (kDefs i r1 ++ kAll (i + 1) r) = K ∧ A.j ++ (jDefs i r1 ++ jAll (i + 1) r) = J) ∧ A.b ++ (bDefs gs i g r1 ++ bAll gs (i + 1) r) = F) 5 A rfl ⟨⟨e1, e2⟩, e3⟩ rfl rfl rfl ?_ ?_
    · rintro A ⟨⟨e1, e2⟩, e3⟩
      refine fR rfl ?_
      refine Run.condF rfl rfl (by simp) ?_
      refine fR rfl ?_
      refine aL rfl rfl rfl rfl rfl ?_
      refine fM rfl ?_
      exact rWeak 4 rfl (ih A ⟨⟨by rw [← e1]; simp [kDefs], by rw [← e2]; simp [jDefs]⟩, by rw [← e3]; simp [bDefs]⟩) rfl rfl rfl
    · rintro m t r1 A h2 hm hmd ⟨⟨e1, e2⟩, e3⟩ ih1
      have ht := hg.t t (List.mem_of_getElem? h2)
      have htl := ht.fl
      have hdl := ht.d.l
      have hkl := keysD_len t.dirs
      have hlk := congrArg List.length e1
      have hlj := congrArg List.length e2
      have hlb := congrArg List.length e3
      simp only [kDefs, jDefs, bDefs] at e1 e2 e3 hlk hlj hlb
      simp only [List.length_append] at hlk hlj hlb
      refine fR rfl ?_
      refine Run.condT rfl rfl (by simp; omega) ?_
      refine fR rfl ?_
      refine Mid.elemMap rfl rfl rfl h2 rfl rfl ?_
      refine fM rfl ?_
      by_cases hk1 : t.kind = 1
      · rw [kDef, if_pos hk1] at e1 hlk
        rw [jDef, if_pos hk1] at e2 hlj
        rw [bDef, if_pos hk1] at e3 hlb
        simp only [List.length_append] at hlb
        refine Run.condF rfl rfl (by simp [hk1]) ?_
        refine fR rfl ?_
        refine Mid.callR [0, 3] (keys_ok H gs g hg (hB.n g (List.mem_of_getElem? h1)) t ht A.b (by omega)) rfl rfl rfl rfl (by simp [stoBd]; simp [AObj.bd, V.bds, V.bd]) (by repeat' (first | exact trivial | exact rfl | refine And.intro ?_ ?_ | exact (congrArg some (AObj.ren_mE _ _ _ _ _ _)).symm | exact (congrArg some (AObj.ren_cE _ _ _)).symm)) rfl rfl (ob' := [(0, .cells [.t (.lst (gs.map Graph.enc)), .own 3 2 (List.map Fault.enc (A.b ++ keyL g t 0 (keysD t.dirs)))]), (3, .arr (A.b ++ keyL g t 0 (keysD t.dirs)).length)]) (rfl) rfl rfl ?_
        refine fM rfl ?_
        generalize keyL g t 0 (keysD t.dirs) = N1 at e3 hlb
        refine Mid.call (keysOf_ok H t ht.d) rfl rfl rfl rfl ?_
        refine lM rfl rfl rfl ?_
        refine fM rfl ?_
        generalize keysD t.dirs = KS at hkl e1 hlk
        refine rList KS (fun q (C : List KeyO) => { env := [(5, .own 1 3 (C.map KeyO.enc)), (6, .own 2 6 (A.j.map Jn.enc)), (7, .ptr 0 0), (8, .t (.int .i64 i)), (9, .ptr 4 0), (11, .ptr 5 0), (19, .t (.lst (gs.map Graph.enc))), (20, .t (.int .i64 gs.length)), (21, .t (.int .i64 i)), (28, .t (.lst (g.doc.map Def.enc))), (29, .t (.int .i64 g.doc.length)), (30, .t (.int .i64 m)), (42, .t (.lst (KS.map lE))), (43, .t (.int .i64 KS.length)), (44, .t (.int .i64 q))], s := ⟨[(0, .cells [.t (.lst (gs.map Graph.enc)), .own 3 2 (List.map Fault.enc (A.b ++ N1))]), (1, .arr C.length), (2, .arr A.j.length), (3, .arr (A.b ++ N1).length), (4, (.cells [.t (.str g.name), .t (.lst (g.doc.map Def.enc))])), (5, (.cells [.t (.int .i64 t.kind), .t (.str t.name), .t (.lst (t.implements.map sE)), .t (.lst (t.dirs.map Dir.enc)), .t (.lst (t.fields.map Field.enc)), .t (.lst (t.members.map Member.enc)), .t (.lst (t.inputs.map Input.enc))]))], 6⟩ }) (fun r2 q C => C ++ (r2.map (keyOf i t) ++ (kDefs i r1 ++ kAll (i + 1) r)) = K) 6 A.k rfl (by rw [← e1]; simp) rfl rfl rfl ?_ ?_
        · rintro C hC
          refine fR rfl ?_
          refine Run.condF rfl rfl (by simp) ?_
          refine fR rfl ?_
          refine lM rfl rfl rfl ?_
          refine fM rfl ?_
          refine rList t.fields (fun q (B : List Jn × List Fault) => { env := [(5, .own 1 3 (C.map KeyO.enc)), (6, .own 2 6 (B.1.map Jn.enc)), (7, .ptr 0 0), (8, .t (.int .i64 i)), (9, .ptr 4 0), (11, .ptr 5 0), (19, .t (.lst (gs.map Graph.enc))), (20, .t (.int .i64 gs.length)), (21, .t (.int .i64 i)), (28, .t (.lst (g.doc.map Def.enc))), (29, .t (.int .i64 g.doc.length)), (30, .t (.int .i64 m)), (58, .t (.lst (t.fields.map Field.enc))), (59, .t (.int .i64 t.fields.length)), (60, .t (.int .i64 q))], s := ⟨[(0, .cells [.t (.lst (gs.map Graph.enc)), .own 3 2 (List.map Fault.enc (B.2))]), (1, .arr C.length), (2, .arr B.1.length), (3, .arr B.2.length), (4, (.cells [.t (.str g.name), .t (.lst (g.doc.map Def.enc))])), (5, (.cells [.t (.int .i64 t.kind), .t (.str t.name), .t (.lst (t.implements.map sE)), .t (.lst (t.dirs.map Dir.enc)), .t (.lst (t.fields.map Field.enc)), .t (.lst (t.members.map Member.enc)), .t (.lst (t.inputs.map Input.enc))]))], 6⟩ }) (fun r2 q B => B.1 ++ (r2.map (jnOf i t) ++ (jDefs i r1 ++ jAll (i + 1) r)) = J ∧ B.2 ++ (fL gs i g t r2 ++ (bDefs gs i g r1 ++ bAll gs (i + 1) r)) = F) 6 (A.j, A.b ++ N1) rfl ⟨by rw [← e2]; simp, by rw [← e3]; simp⟩ rfl rfl rfl ?_ ?_
          · rintro ⟨B1, B2⟩ ⟨g1, g2⟩
            dsimp only at g1 g2 ⊢
            refine fR rfl ?_
            refine Run.condF rfl rfl (by simp) ?_
            refine fR rfl ?_
            refine aL rfl rfl rfl rfl rfl ?_
            refine fM rfl ?_
            exact rWeak 5 rfl (ih1 ⟨C, B1, B2⟩ ⟨⟨by rw [← hC]; simp, by rw [← g1]; simp⟩, by rw [← g2]; simp [fL]⟩) rfl rfl rfl
          · rintro q x r2 ⟨B1, B2⟩ h3 hq hqd ⟨g1, g2⟩ ih2
            dsimp only at g1 g2 ih2 ⊢
            have hx := ht.f x (List.mem_of_getElem? h3)
            have hl1 := congrArg List.length g1
            have hl2 := congrArg List.length g2
            simp only [fL, List.length_append, List.length_map, List.length_cons] at hl1 hl2
            refine fR rfl ?_
            refine Run.condT rfl rfl (by simp; omega) ?_
            refine fR rfl ?_
            refine Mid.elemMap rfl rfl rfl h3 rfl rfl ?_
            refine fM rfl ?_
            refine Mid.callR [0, 3] (field_ok H gs hl hB.g hB.n i g h1 t ht x hx B2 (by omega)) rfl rfl rfl rfl (by simp [stoBd]; simp [AObj.bd, V.bds, V.bd]) (by repeat' (first | exact trivial | exact rfl | refine And.intro ?_ ?_ | exact (congrArg some (AObj.ren_mE _ _ _ _ _ _)).symm | exact (congrArg some (AObj.ren_cE _ _ _)).symm)) rfl rfl (ob' := [(0, .cells [.t (.lst (gs.map Graph.enc)), .own 3 2 (List.map Fault.enc (B2 ++ fieldF gs i g t x))]), (3, .arr (B2 ++ fieldF gs i g t x).length)]) (rfl) rfl rfl ?_
            refine fM rfl ?_
            refine Mid.call (hasD_ok H.toPr23 25 x.dirs hx.d.len ([101, 120, 116, 101, 114, 110, 97, 108] : Str) (.inl rfl)) rfl rfl rfl rfl ?_
            refine fM rfl ?_
            refine Mid.call (set_ok H x.dirs hx.d ([114, 101, 113, 117, 105, 114, 101, 115] : Str)) rfl rfl rfl rfl ?_
            refine fM rfl ?_
            refine Mid.call (set_ok H x.dirs hx.d ([112, 114, 111, 118, 105, 100, 101, 115] : Str)) rfl rfl rfl rfl ?_
            refine fM rfl ?_
            refine apM Jn.enc B1 [jnOf i t x] rfl rfl rfl rfl rfl ?_ (h1 := by first | omega | (simp; omega) | (simp; done)) (h2 := by first | omega | (simp; omega) | (simp; done))
            refine fM rfl ?_
            refine aL rfl rfl rfl rfl rfl ?_
            refine fM rfl ?_
            exact rWeak 6 rfl (ih2 (B1 ++ [jnOf i t x], B2 ++ fieldF gs i g t x) ⟨by rw [← g1]; simp, by rw [← g2]; simp [fL]⟩) rfl rfl rfl
        · rintro q ks r2 C h3 hq hqd hC ih2
          have hlC := congrArg List.length hC
          simp only [List.length_append, List.length_map, List.length_cons] at hlC
          refine fR rfl ?_
          refine Run.condT rfl rfl (by simp; omega) ?_
          refine fR rfl ?_
          refine Mid.elemMap rfl rfl rfl h3 rfl rfl ?_
          refine fM rfl ?_
          refine apM KeyO.enc C [keyOf i t ks] rfl rfl rfl rfl rfl ?_ (h1 := by first | omega | (simp; omega) | (simp; done)) (h2 := by first | omega | (simp; omega) | (simp; done))
          refine fM rfl ?_
          refine aL rfl rfl rfl rfl rfl ?_
          refine fM rfl ?_
          exact rWeak 6 rfl (ih2 (C ++ [keyOf i t ks]) (by rw [← hC]; simp)) rfl rfl rfl
      · rw [kDef, if_neg hk1, List.nil_append] at e1
        rw [jDef, if_neg hk1, List.nil_append] at e2
        rw [bDef, if_neg hk1, List.nil_append] at e3
        refine Run.condT rfl rfl (by simp [hk1]) ?_
        refine fR rfl ?_
        refine aL rfl rfl rfl rfl rfl ?_
        refine fM rfl ?_
        exact rWeak 5 rfl (ih1 A ⟨⟨e1, e2⟩, e3⟩) rfl rfl rfl
end Go.GB.C23


/-
  F25G: moves: joins, keys and requirements of supergraphs.
-/
namespace Go.GB.C23
open Go.GB Go.GB.C11
set_option linter.unusedSimpArgs false
set_option linter.unusedVariables false
set_option maxRecDepth 100000
set_option maxHeartbeats 4000000
variable {P : Program}

theorem clone25_ok (H : Pr25 P) (l : List Str) (hl : l.length * 16 ≤ 140737488355328) : FnOk P 68 [.t (.lst (l.map sE))] ⟨[], 0⟩ { v := .t (.lst (l.map sE)) } := by
  refine FnOk.run H.i68 H.mixed rfl rfl ?_
  refine fR rfl ?_
  refine p0 rfl ?_
  refine fM rfl ?_
  refine Run.condU rfl rfl (fun h => ?_) (fun _ => ?_)
  · have hn : l = [] := by
      cases l with
      | nil => rfl
      | cons x r =>
        have := h (sE x) (by simp)
        simp [sE] at this
    subst hn
    refine fR rfl ?_
    refine Run.fin rfl (EndOk.go ?_); exact .nil rfl
  · refine fR rfl ?_
    refine apN sE l rfl rfl rfl ?_ (h1 := hl) (h2 := by omega)
    refine fM rfl ?_
    refine Run.fin rfl (EndOk.go ?_); exact .own rfl
def Jn.v (j : Jn) : V := .agg [.t (.str j.ty), .t (.str j.field), .t (.int .i64 j.graph), .t (.bool j.ext), .t (.lst (j.req.map sE)), .t (.lst (j.prov.map sE))]
structure Jn.Ok (j : Jn) : Prop where
  r : j.req.length * 16 ≤ 140737488355328
  p : j.prov.length * 16 ≤ 140737488355328
def Jn.zero : Jn := ⟨[], [], 0, false, [], []⟩
theorem Jn.zero_ok : Jn.zero.Ok := ⟨by decide, by decide⟩
/-- a supergraph -/
def superV (a b : T) (ks : List KeyO) (js : List Jn) : V := .agg [.t a, .t b, .t (.lst (ks.map KeyO.enc)), .t (.lst (js.map Jn.enc))]
def isJ (n f : Str) (g : Int) (j : Jn) : Bool := (j.ty == n && j.field == f) && j.graph == g
def findJ (n f : Str) (g : Int) : List Jn → Option Jn
  | [] => none
  | j :: r => if isJ n f g j = true then some j else findJ n f g r
theorem findJ_ok (H : Pr25 P) (a b : T) (ks : List KeyO) (js : List Jn) (hl : js.length ≤ 140737488355328) (hj : ∀ j, j ∈ js → j.Ok) (n f : Str) (g : Int) : FnOk P 38 [superV a b ks js, .t (.str n), .t (.str f), .t (.int .i64 g)] ⟨[], 0⟩ { v := .tup [((findJ n f g js).getD Jn.zero).v, .t (.bool (findJ n f g js).isSome)] } := by
  refine FnOk.run H.i38 H.mixed rfl rfl ?_
  refine fR rfl ?_
  refine lM rfl rfl rfl ?_
  refine fM rfl ?_
  refine rList js (fun i (_ : Unit) => { env := [(1, .t (.str n)), (2, .t (.str f)), (3, .t (.int .i64 g)), (8, .ptr 1 0), (13, .t (.lst (js.map Jn.enc))), (14, .t (.int .i64 js.length)), (15, .t (.int .i64 i))], s := ⟨[(1, (.cells [.t (.str []), .t (.str []), .t (.int .i64 0), .t (.bool false), .nils, .nils]))], 2⟩ }) (fun r i _ => findJ n f g js = findJ n f g r) 2 () rfl rfl rfl rfl rfl ?_ ?_
  · intro _ hinv
    refine fR rfl ?_
    refine Run.condF rfl rfl (by simp) ?_
    refine fR rfl ?_
    have e : findJ n f g js = none := by rw [hinv]; rfl
    rw [e]
    refine Run.fin rfl (EndOk.go ?_); exact .tup2 (.agg (.cons (.t rfl) (.cons (.t rfl) (.cons (.t rfl) (.cons (.t rfl) (.cons (.nil rfl) (.cons (.nil rfl) .nil))))))) (.t rfl)
  · intro i x r _ h1 hi hd hinv ih
    have hx := hj x (List.mem_of_getElem? h1)
    refine fR rfl ?_
    refine Run.condT rfl rfl (by simp; omega) ?_
    refine fR rfl ?_
    refine Mid.elemMap rfl rfl rfl h1 rfl rfl ?_
    refine fM rfl ?_
    refine Run.cond rfl rfl (fun h => ?_) (fun h => ?_)
    · have h' : isJ n f g x = true := h
      have e : findJ n f g js = some x := by rw [hinv, findJ, if_pos h']
      rw [e]
      refine fR rfl ?_
      refine Mid.call (clone25_ok H x.req hx.r) rfl rfl rfl rfl ?_
      refine fM rfl ?_
      refine Mid.call (clone25_ok H x.prov hx.p) rfl rfl rfl rfl ?_
      refine fM rfl ?_
      refine Run.fin rfl (EndOk.go ?_); exact .tup2 (.le (.same rfl)) (.t rfl)
    · have h' : ¬ isJ n f g x = true := by unfold isJ; rw [h]; simp
      refine fR rfl ?_
      refine aL rfl rfl rfl rfl rfl ?_
      refine fM rfl ?_
      exact rWeak 2 rfl (ih () (by rw [hinv, findJ, if_neg h'])) rfl rfl rfl
def isK (n : Str) (g : Int) (k : KeyO) : Bool := k.ty == n && k.graph == g
def keysS (n : Str) (g : Int) : List KeyO → List (List Str)
  | [] => []
  | k :: r => (if isK n g k = true then [k.fields] else []) ++ keysS n g r
theorem keysJ_ok (H : Pr25 P) (a b : T) (ks : List KeyO) (js : List Jn) (hl : ks.length ≤ 1000) (hk : ∀ k, k ∈ ks → k.fields.length * 16 ≤ 140737488355328) (n : Str) (g : Int) : FnOk P 40 [superV a b ks js, .t (.str n), .t (.int .i64 g)] ⟨[], 0⟩ { v := .t (.lst ((keysS n g ks).map lE)) } := by
  have hR : ∀ R, keysS n g ks = R → FnOk P 40 [superV a b ks js, .t (.str n), .t (.int .i64 g)] ⟨[], 0⟩ { v := .t (.lst (R.map lE)) } := by
    intro R hR
    refine FnOk.run H.i40 H.mixed rfl rfl ?_
    refine fR rfl ?_
    refine lM rfl rfl rfl ?_
    refine fM rfl ?_
    refine rList ks (fun i (B : List (List Str)) => { env := [(1, .t (.str n)), (2, .t (.int .i64 g)), (7, .own 1 1 (B.map lE)), (11, .t (.lst (ks.map KeyO.enc))), (12, .t (.int .i64 ks.length)), (13, .t (.int .i64 i))], s := ⟨[(1, .arr B.length)], 2⟩ }) (fun r i B => B.length ≤ i ∧ B ++ keysS n g r = R) 1 [] rfl ⟨by simp, hR⟩ rfl rfl rfl ?_ ?_
    · rintro B ⟨_, hB⟩
      obtain rfl : B = R := by rw [← hB]; simp [keysS]
      refine fR rfl ?_
      refine Run.condF rfl rfl (by simp) ?_
      refine fR rfl ?_
      refine Run.fin rfl (EndOk.go ?_); exact .own rfl
    · rintro i x r B h1 hi hd ⟨hBl, hB⟩ ih
      have hBl' : B.length ≤ i := hBl
      have hx := hk x (List.mem_of_getElem? h1)
      have hB2 : B ++ ((if isK n g x = true then [x.fields] else []) ++ keysS n g r) = R := hB
      refine fR rfl ?_
      refine Run.condT rfl rfl (by simp; omega) ?_
      refine fR rfl ?_
      refine Mid.elemMap rfl rfl rfl h1 rfl rfl ?_
      refine fM rfl ?_
      refine Run.cond rfl rfl (fun h => ?_) (fun h => ?_)
      · have h' : isK n g x = true := h
        rw [if_pos h'] at hB2
        refine fR rfl ?_
        refine Mid.call (clone25_ok H x.fields hx) rfl rfl rfl rfl ?_
        refine fM rfl ?_
        refine apM lE B [x.fields] rfl rfl rfl rfl rfl ?_ (h1 := by first | omega | (simp; omega) | (simp; done)) (h2 := by first | omega | (simp; omega) | (simp; done))
        refine fM rfl ?_
        refine aL rfl rfl rfl rfl rfl ?_
        refine fM rfl ?_
        exact rWeak 2 rfl (ih (B ++ [x.fields]) ⟨by simp; omega, by rw [← hB2]; simp⟩) rfl rfl rfl
      · have h' : ¬ isK n g x = true := by unfold isK; rw [h]; simp
        rw [if_neg h', List.nil_append] at hB2
        refine fR rfl ?_
        refine aL rfl rfl rfl rfl rfl ?_
        refine fM rfl ?_
        exact rWeak 2 rfl (ih B ⟨by omega, hB2⟩) rfl rfl rfl
  exact hR _ rfl
end Go.GB.C23

